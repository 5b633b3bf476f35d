/- The plain law of package asm, part 1: lists of instructions, their normal form, as the program and as the reference make it. No program in sight.; The plain law of package asm, part 2: places, distances, and how many bytes jumps have: they grow till all fit; that is the least. No program in sight.; The plain law of package asm, part 3: instructions as bytes and back. No program in sight.; The plai -/
import Derived.Test.YtbcpopakdlplgaaDoorBase
namespace Go.Proofs.YtbcpopakdlplgaaDoor
set_option linter.unusedVariables false
set_option linter.unusedSimpArgs false

/-- An instruction. -/
structure IN where
  op : Int
  arg : Int
deriving DecidableEq
def isJ (x : IN) : Bool := x.op == 24 || x.op == 25
def isL (x : IN) : Bool := x.op == 38
theorem isJ_L {x : IN} (h : isJ x = true) : isL x = false := by
  unfold isJ at h; unfold isL
  simp only [Bool.or_eq_true, beq_iff_eq] at h
  rcases h with h | h <;> rw [h] <;> decide
/-- Is a label asked for? -/
def askedL (l : List IN) (a : Int) : Bool := l.any fun x => isJ x && x.arg == a
/-- Where a label stands first; -1: nowhere. -/
def stndGo (a : Int) : List IN → Nat → Int
  | [], _ => -1
  | x :: t, i => if isL x = true ∧ x.arg = a then (i : Int) else stndGo a t (i + 1)
def stnds (l : List IN) (a : Int) : Int := stndGo a l 0
/-- The reference's count of labels. -/
def numGo (l0 : List IN) : List IN → Bool → Int → Int
  | [], _, n => n
  | x :: t, bes, n => if isL x = false then numGo l0 t false n else if askedL l0 x.arg = true ∧ bes = false then numGo l0 t true (n + 1) else numGo l0 t bes n
def numberR (l : List IN) (place : Int) : Int := numGo l (l.take (place + 1).toNat) false (-1)
/-- The reference's normal form. -/
def normGo (l0 : List IN) : List IN → Nat → Bool → List IN
  | [], _, _ => []
  | x :: t, i, bes => if isL x = true then (if askedL l0 x.arg = true ∧ bes = false then ⟨38, numberR l0 i⟩ :: normGo l0 t (i + 1) true else normGo l0 t (i + 1) bes)
    else (if isJ x = true then ⟨x.op, numberR l0 (stnds l0 x.arg)⟩ else x) :: normGo l0 t (i + 1) false
def normR (l : List IN) : List IN := normGo l l 0 false
/-- The program's: what is laid, and the labels' numbers. -/
def scanP (l0 : List IN) : List IN → Bool → Int → List IN × List (Int × Int)
  | [], _, _ => ([], [])
  | x :: t, bes, n => if isL x = false then (x :: (scanP l0 t false n).1, (scanP l0 t false n).2) else if askedL l0 x.arg = false then scanP l0 t bes n
    else if bes = true then ((scanP l0 t true n).1, (x.arg, n - 1) :: (scanP l0 t true n).2) else (⟨38, n⟩ :: (scanP l0 t true (n + 1)).1, (x.arg, n) :: (scanP l0 t true (n + 1)).2)
/-- The last number that a label was given. -/
def lastN : List (Int × Int) → Int → Int → Int
  | [], _, v => v
  | p :: t, a, v => lastN t a (if p.1 = a then p.2 else v)
def setJ (ps : List (Int × Int)) (x : IN) : IN := if isJ x = true then ⟨x.op, lastN ps x.arg 0⟩ else x
def normP (l : List IN) : List IN := (scanP l l false 0).1.map (setJ (scanP l l false 0).2)
/-- Labels stand once, and those that are asked for stand. -/
def OnceL (l : List IN) : Prop := (∀ i j (hi : i < l.length) (hj : j < l.length), isL l[i] = true → isL l[j] = true → l[i].arg = l[j].arg → i = j) ∧ ∀ x ∈ l, isJ x = true → ∃ y ∈ l, isL y = true ∧ y.arg = x.arg

/-- How far one has come: the count, and whether a label stands just ahead. -/
def besGo (l0 : List IN) : List IN → Bool → Bool
  | [], bes => bes
  | x :: t, bes => if isL x = false then besGo l0 t false else if askedL l0 x.arg = true ∧ bes = false then besGo l0 t true else besGo l0 t bes
theorem numGo_app (l0 : List IN) : ∀ (a b : List IN) (bes : Bool) (n : Int), numGo l0 (a ++ b) bes n = numGo l0 b (besGo l0 a bes) (numGo l0 a bes n)
  | [], b, bes, n => rfl
  | x :: t, b, bes, n => by
    rw [List.cons_append, numGo, numGo, besGo]
    split
    · exact numGo_app l0 t b false n
    · split
      · exact numGo_app l0 t b true (n + 1)
      · exact numGo_app l0 t b bes n
theorem besGo_app (l0 : List IN) : ∀ (a b : List IN) (bes : Bool), besGo l0 (a ++ b) bes = besGo l0 b (besGo l0 a bes)
  | [], b, bes => rfl
  | x :: t, b, bes => by
    rw [List.cons_append, besGo, besGo]
    split
    · exact besGo_app l0 t b false
    · split
      · exact besGo_app l0 t b true
      · exact besGo_app l0 t b bes
theorem numberR_at (l0 pre : List IN) (x : IN) (t : List IN) (h : l0 = pre ++ x :: t) : numberR l0 pre.length = numGo l0 [x] (besGo l0 pre false) (numGo l0 pre false (-1)) := by
  unfold numberR
  have e : ((pre.length : Int) + 1).toNat = pre.length + 1 := by omega
  have e2 : l0.take (pre.length + 1) = pre ++ [x] := by
    rw [h, List.take_append]
    simp
    exact List.take_of_length_le (by omega)
  rw [e, e2, numGo_app]
/-- The labels' numbers, as the reference has them. -/
def pairsR (l0 : List IN) : List IN → Nat → List (Int × Int)
  | [], _ => []
  | x :: t, i => if isL x = true ∧ askedL l0 x.arg = true then (x.arg, numberR l0 i) :: pairsR l0 t (i + 1) else pairsR l0 t (i + 1)
/-- What the reference lays before the jumps are set. -/
def layR (l0 : List IN) : List IN → Nat → Bool → List IN
  | [], _, _ => []
  | x :: t, i, bes => if isL x = true then (if askedL l0 x.arg = true ∧ bes = false then ⟨38, numberR l0 i⟩ :: layR l0 t (i + 1) true else layR l0 t (i + 1) bes) else x :: layR l0 t (i + 1) false
theorem scan_is (l0 : List IN) : ∀ (suf pre : List IN), l0 = pre ++ suf → scanP l0 suf (besGo l0 pre false) (numGo l0 pre false (-1) + 1) = (layR l0 suf pre.length (besGo l0 pre false), pairsR l0 suf pre.length)
  | [], pre, h => rfl
  | x :: t, pre, h => by
    have ih := scan_is l0 t (pre ++ [x]) (by rw [h]; simp)
    have hn := numberR_at l0 pre x t h
    rw [besGo_app, numGo_app, List.length_append, List.length_singleton] at ih
    rw [scanP, layR, pairsR]
    generalize besGo l0 pre false = bes at ih hn
    generalize numGo l0 pre false (-1) = n at ih hn
    cases hL : isL x with
    | false =>
      have e1 : besGo l0 [x] bes = false := by rw [besGo, if_pos hL]; rfl
      have e2 : numGo l0 [x] bes n = n := by rw [numGo, if_pos hL]; rfl
      rw [e1, e2] at ih
      rw [if_pos rfl, if_neg (by decide), if_neg (by simp), ih]
    | true =>
      rw [if_neg (by decide), if_pos rfl]
      cases hA : askedL l0 x.arg with
      | false =>
        have e1 : besGo l0 [x] bes = bes := by rw [besGo, if_neg (by rw [hL]; decide), if_neg (by rw [hA]; simp)]; rfl
        have e2 : numGo l0 [x] bes n = n := by rw [numGo, if_neg (by rw [hL]; decide), if_neg (by rw [hA]; simp)]; rfl
        rw [e1, e2] at ih
        rw [if_pos rfl, if_neg (by simp), if_neg (by simp), ih]
      | true =>
        rw [if_neg (by decide)]
        cases bes with
        | true =>
          have e1 : besGo l0 [x] true = true := by rw [besGo, if_neg (by rw [hL]; decide), if_neg (by simp)]; rfl
          have e2 : numGo l0 [x] true n = n := by rw [numGo, if_neg (by rw [hL]; decide), if_neg (by simp)]; rfl
          rw [e1, e2] at ih
          rw [e2] at hn
          rw [if_pos rfl, if_neg (by simp), if_pos ⟨rfl, rfl⟩, ih, hn]
          have e3 : n + 1 - 1 = n := by omega
          rw [e3]
        | false =>
          have e1 : besGo l0 [x] false = true := by rw [besGo, if_neg (by rw [hL]; decide), if_pos ⟨hA, rfl⟩]; rfl
          have e2 : numGo l0 [x] false n = n + 1 := by rw [numGo, if_neg (by rw [hL]; decide), if_pos ⟨hA, rfl⟩]; rfl
          rw [e1, e2] at ih
          rw [e2] at hn
          rw [if_neg (by decide), if_pos ⟨rfl, rfl⟩, if_pos ⟨rfl, rfl⟩, ih, hn]
theorem scan_all (l : List IN) : scanP l l false 0 = (layR l l 0 false, pairsR l l 0) := scan_is l l [] rfl
theorem norm_lay (l0 : List IN) (f : IN → IN) (hf : ∀ x, isJ x = true → f x = ⟨x.op, numberR l0 (stnds l0 x.arg)⟩) (hg : ∀ x, isJ x = false → f x = x) : ∀ (suf : List IN) (i : Nat) (bes : Bool), (layR l0 suf i bes).map f = normGo l0 suf i bes
  | [], _, _ => rfl
  | x :: t, i, bes => by
    have ih := norm_lay l0 f hf hg t
    rw [layR, normGo]
    split
    · split
      · rw [List.map_cons, ih, hg ⟨38, _⟩ (by simp [isJ])]
      · exact ih _ _
    · rw [List.map_cons, ih]
      split
      · rename_i h; rw [hf x h]
      · rename_i h; rw [hg x (by simpa using h)]
/-- Each asked label's number, as its place has it. -/
theorem pairs_last (l0 : List IN) (a : Int) : ∀ (suf : List IN) (i : Nat) (v : Int), (∀ x ∈ suf, isL x = true → x.arg ≠ a) → lastN (pairsR l0 suf i) a v = v
  | [], _, _, _ => rfl
  | x :: t, i, v, h => by
    have ih := fun i v => pairs_last l0 a t i v (fun y hy => h y (List.mem_cons_of_mem _ hy))
    rw [pairsR]
    split
    · rename_i hx
      rw [lastN, if_neg (h x (List.mem_cons_self ..) hx.1)]
      exact ih _ _
    · exact ih _ _
theorem pairs_at (l0 : List IN) (a : Int) (hA : askedL l0 a = true) : ∀ (suf : List IN) (i : Nat) (v : Int), (∃ x ∈ suf, isL x = true ∧ x.arg = a) → (∀ j k (hj : j < suf.length) (hk : k < suf.length), isL suf[j] = true → isL suf[k] = true → suf[j].arg = suf[k].arg → j = k) → lastN (pairsR l0 suf i) a v = numberR l0 (stndGo a suf i)
  | [], _, _, h, _ => by obtain ⟨x, hx, _⟩ := h; cases hx
  | x :: t, i, v, h, hu => by
    rw [pairsR, stndGo]
    by_cases hx : isL x = true ∧ x.arg = a
    · rw [if_pos ⟨hx.1, by rw [hx.2]; exact hA⟩, if_pos hx, lastN, if_pos hx.2]
      refine pairs_last l0 a t (i + 1) _ (fun y hy hL e => ?_)
      obtain ⟨k, hk, rfl⟩ := List.getElem_of_mem hy
      have := hu 0 (k + 1) (by simp) (by simpa using hk) hx.1 (by simpa using hL) (by simpa using hx.2.trans e.symm)
      omega
    · rw [if_neg hx]
      have hex : ∃ y ∈ t, isL y = true ∧ y.arg = a := by
        obtain ⟨y, hy, h1⟩ := h
        rcases List.mem_cons.1 hy with rfl | hy
        · exact absurd h1 hx
        · exact ⟨y, hy, h1⟩
      have ih := fun v => pairs_at l0 a hA t (i + 1) v hex (fun j k hj hk h1 h2 h3 => by
        have := hu (j + 1) (k + 1) (by simpa using hj) (by simpa using hk) (by simpa using h1) (by simpa using h2) (by simpa using h3)
        omega)
      split
      · exact ih _
      · exact ih _
theorem norm_same (l : List IN) (h : OnceL l) : normP l = normR l := by
  unfold normP normR
  rw [scan_all]
  show (layR l l 0 false).map (setJ (pairsR l l 0)) = _
  have key : ∀ x ∈ layR l l 0 false, True := fun _ _ => trivial
  -- jumps of the laid list are jumps of the list
  have hmem : ∀ (suf : List IN) (i : Nat) (bes : Bool), ∀ x ∈ layR l suf i bes, isJ x = true → x ∈ suf := by
    intro suf
    induction suf with
    | nil => intro i bes x hx; cases hx
    | cons y t ih =>
      intro i bes x hx hj
      rw [layR] at hx
      split at hx
      · split at hx
        · rcases List.mem_cons.1 hx with rfl | hx
          · simp [isJ] at hj
          · exact List.mem_cons_of_mem _ (ih _ _ x hx hj)
        · exact List.mem_cons_of_mem _ (ih _ _ x hx hj)
      · rcases List.mem_cons.1 hx with rfl | hx
        · exact List.mem_cons_self ..
        · exact List.mem_cons_of_mem _ (ih _ _ x hx hj)
  rw [← norm_lay l (fun x => if isJ x = true then ⟨x.op, numberR l (stnds l x.arg)⟩ else x) (fun x hx => by simp [hx]) (fun x hx => by simp [hx]) l 0 false]
  refine List.map_congr_left (fun x hx => ?_)
  unfold setJ
  by_cases hj : isJ x = true
  · rw [if_pos hj, if_pos hj]
    have hxl := hmem l 0 false x hx hj
    have hA : askedL l x.arg = true := List.any_eq_true.2 ⟨x, hxl, by rw [hj]; simp⟩
    obtain ⟨y, hy, hyL, hya⟩ := h.2 x hxl hj
    rw [pairs_at l x.arg hA l 0 0 ⟨y, hy, hyL, hya⟩ h.1]
    rfl
  · rw [if_neg hj, if_neg hj]

/-! ### What a normal form is; made normal again it stays -/
/-- Labels are numbered as they stand, from n on. -/
def SeqL : List IN → Int → Prop
  | [], _ => True
  | x :: t, n => if isL x = true then x = ⟨38, n⟩ ∧ SeqL t (n + 1) else SeqL t n
/-- No label stands behind a label. -/
def Apart : List IN → Bool → Prop
  | [], _ => True
  | x :: t, bes => if isL x = true then bes = false ∧ Apart t true else Apart t false
theorem isL_38 (n : Int) : isL ⟨38, n⟩ = true := by simp [isL]
theorem scan_seq (l0 : List IN) : ∀ (suf : List IN) (bes : Bool) (n : Int), SeqL (scanP l0 suf bes n).1 n
  | [], _, _ => trivial
  | x :: t, bes, n => by
    rw [scanP]
    split
    · rename_i h
      show SeqL (x :: _) n
      rw [SeqL, if_neg (by rw [h]; decide)]
      exact scan_seq l0 t false n
    · split
      · exact scan_seq l0 t bes n
      · split
        · exact scan_seq l0 t true n
        · show SeqL (_ :: _) n
          rw [SeqL, if_pos (isL_38 n)]
          exact ⟨rfl, scan_seq l0 t true (n + 1)⟩
theorem scan_apart (l0 : List IN) : ∀ (suf : List IN) (bes : Bool) (n : Int), Apart (scanP l0 suf bes n).1 bes
  | [], _, _ => trivial
  | x :: t, bes, n => by
    rw [scanP]
    split
    · rename_i h
      show Apart (x :: _) bes
      rw [Apart, if_neg (by rw [h]; decide)]
      exact scan_apart l0 t false n
    · split
      · exact scan_apart l0 t bes n
      · split
        · rename_i hb; subst hb; exact scan_apart l0 t true n
        · rename_i hb
          show Apart (_ :: _) bes
          rw [Apart, if_pos (isL_38 n)]
          exact ⟨by simpa using hb, scan_apart l0 t true (n + 1)⟩
theorem scan_vals (l0 : List IN) : ∀ (suf : List IN) (bes : Bool) (n : Int), ∀ p ∈ (scanP l0 suf bes n).2, (bes = true ∧ p.2 = n - 1) ∨ (⟨38, p.2⟩ : IN) ∈ (scanP l0 suf bes n).1
  | [], _, _, p, h => by cases h
  | x :: t, bes, n, p, h => by
    rw [scanP] at h ⊢
    split at h
    · rename_i hL
      rw [if_pos hL]
      rcases scan_vals l0 t false n p h with ⟨h1, _⟩ | h1
      · cases h1
      · exact .inr (List.mem_cons_of_mem _ h1)
    · rename_i hL
      rw [if_neg hL]
      split at h
      · rename_i hA
        rw [if_pos hA]
        exact scan_vals l0 t bes n p h
      · rename_i hA
        rw [if_neg hA]
        split at h
        · rename_i hb
          rw [if_pos hb]
          rcases List.mem_cons.1 h with rfl | h
          · exact .inl ⟨hb, rfl⟩
          · rcases scan_vals l0 t true n p h with ⟨_, h1⟩ | h1
            · exact .inl ⟨hb, h1⟩
            · exact .inr h1
        · rename_i hb
          rw [if_neg hb]
          right
          rcases List.mem_cons.1 h with rfl | h
          · exact List.mem_cons_self ..
          · rcases scan_vals l0 t true (n + 1) p h with ⟨_, h1⟩ | h1
            · have : p.2 = n := by omega
              rw [this]; exact List.mem_cons_self ..
            · exact List.mem_cons_of_mem _ h1
theorem scan_labels (l0 : List IN) : ∀ (suf : List IN) (bes : Bool) (n : Int), ∀ z ∈ (scanP l0 suf bes n).1, isL z = true → ∃ p ∈ (scanP l0 suf bes n).2, p.2 = z.arg ∧ z = ⟨38, p.2⟩ ∧ askedL l0 p.1 = true
  | [], _, _, z, h, _ => by cases h
  | x :: t, bes, n, z, h, hz => by
    rw [scanP] at h ⊢
    split at h
    · rename_i hL
      rw [if_pos hL]
      rcases List.mem_cons.1 h with rfl | h
      · rw [hz] at hL; cases hL
      · exact scan_labels l0 t false n z h hz
    · rename_i hL
      rw [if_neg hL]
      split at h
      · rename_i hA
        rw [if_pos hA]
        exact scan_labels l0 t bes n z h hz
      · rename_i hA
        rw [if_neg hA]
        split at h
        · rename_i hb
          rw [if_pos hb]
          obtain ⟨p, hp, h1⟩ := scan_labels l0 t true n z h hz
          exact ⟨p, List.mem_cons_of_mem _ hp, h1⟩
        · rename_i hb
          rw [if_neg hb]
          rcases List.mem_cons.1 h with rfl | h
          · exact ⟨(x.arg, n), List.mem_cons_self .., rfl, rfl, by simpa using hA⟩
          · obtain ⟨p, hp, h1⟩ := scan_labels l0 t true (n + 1) z h hz
            exact ⟨p, List.mem_cons_of_mem _ hp, h1⟩
theorem scan_keeps (l0 : List IN) : ∀ (suf : List IN) (bes : Bool) (n : Int), ∀ z, isL z = false → (z ∈ (scanP l0 suf bes n).1 ↔ z ∈ suf)
  | [], _, _, z, _ => Iff.rfl
  | x :: t, bes, n, z, hz => by
    rw [scanP]
    split
    · show z ∈ x :: _ ↔ _
      rw [List.mem_cons, List.mem_cons, scan_keeps l0 t false n z hz]
    · rename_i hL
      have hne : z ≠ x := fun e => by rw [← e, hz] at hL; exact hL rfl
      rw [List.mem_cons]
      split
      · rw [scan_keeps l0 t bes n z hz]; exact ⟨.inr, fun h => h.resolve_left hne⟩
      · split
        · show z ∈ _ ↔ _
          rw [scan_keeps l0 t true n z hz]; exact ⟨.inr, fun h => h.resolve_left hne⟩
        · show z ∈ _ :: _ ↔ _
          rw [List.mem_cons, scan_keeps l0 t true (n + 1) z hz]
          have hne2 : z ≠ ⟨38, n⟩ := fun e => by rw [e, isL_38] at hz; cases hz
          exact ⟨fun h => .inr (h.resolve_left hne2), fun h => .inr (h.resolve_left hne)⟩
theorem lastN_out : ∀ (ps : List (Int × Int)) (a v : Int), (∀ p ∈ ps, p.1 ≠ a) → lastN ps a v = v
  | [], _, _, _ => rfl
  | p :: t, a, v, h => by
    rw [lastN, if_neg (h p (List.mem_cons_self ..))]
    exact lastN_out t a v (fun q hq => h q (List.mem_cons_of_mem _ hq))
theorem lastN_mem : ∀ (ps : List (Int × Int)) (a k v : Int), (ps.map (·.1)).Nodup → (a, k) ∈ ps → lastN ps a v = k
  | p :: t, a, k, v, hn, h => by
    have hn' := List.nodup_cons.1 hn
    rw [lastN]
    rcases List.mem_cons.1 h with rfl | h
    · rw [if_pos rfl]
      exact lastN_out t a k (fun q hq e => hn'.1 (List.mem_map.2 ⟨q, hq, e⟩))
    · exact lastN_mem t a k _ hn'.2 h
/-- The labels' pairs: one for each asked label. -/
theorem scan_fst (l0 : List IN) : ∀ (suf : List IN) (bes : Bool) (n : Int), (scanP l0 suf bes n).2.map (·.1) = ((suf.filter fun x => isL x && askedL l0 x.arg).map (·.arg))
  | [], _, _ => rfl
  | x :: t, bes, n => by
    rw [scanP]
    split
    · rename_i hL
      rw [List.filter_cons_of_neg (by rw [hL]; simp)]
      exact scan_fst l0 t false n
    · rename_i hL
      split
      · rename_i hA
        rw [List.filter_cons_of_neg (by rw [hA]; simp)]
        exact scan_fst l0 t bes n
      · rename_i hA
        rw [List.filter_cons_of_pos (by simp at hL hA; simp [hL, hA]), List.map_cons]
        split
        · rw [List.map_cons, scan_fst l0 t true n]
        · rw [List.map_cons, scan_fst l0 t true (n + 1)]
theorem once_nodup {l : List IN} (h : OnceL l) (p : IN → Bool) : (((l.filter fun x => isL x && p x)).map (·.arg)).Nodup := by
  have h1 : l.Pairwise fun x y => isL x = true → isL y = true → x.arg ≠ y.arg := List.pairwise_iff_getElem.2 fun i j hi hj hij h2 h3 h4 => by
    have := h.1 i j hi hj h2 h3 h4
    omega
  rw [List.nodup_iff_pairwise_ne, List.pairwise_map]
  have h2 := h1.sublist (List.filter_sublist (p := fun x => isL x && p x))
  refine List.Pairwise.imp_of_mem (fun {a b} ha hb hab => ?_) h2
  have ha' := (List.mem_filter.1 ha).2
  have hb' := (List.mem_filter.1 hb).2
  simp only [Bool.and_eq_true] at ha' hb'
  exact hab ha'.1 hb'.1
/-- A normal form. -/
structure IsNorm (m : List IN) : Prop where
  seq : SeqL m 0
  apart : Apart m false
  asked : ∀ z ∈ m, isL z = true → askedL m z.arg = true
  stands : ∀ z ∈ m, isJ z = true → (⟨38, z.arg⟩ : IN) ∈ m
theorem setJ_L (ps : List (Int × Int)) (x : IN) : isL (setJ ps x) = isL x := by
  unfold setJ
  split
  · rename_i h
    have := isJ_L h
    rw [this]; exact this
  · rfl
theorem setJ_J (ps : List (Int × Int)) (x : IN) : isJ (setJ ps x) = isJ x := by
  unfold setJ
  split
  · rfl
  · rfl
theorem setJ_lab (ps : List (Int × Int)) {x : IN} (h : isL x = true) : setJ ps x = x := by
  unfold setJ
  rw [if_neg (fun hj => by rw [isJ_L hj] at h; cases h)]
theorem seq_map (ps : List (Int × Int)) : ∀ (m : List IN) (n : Int), SeqL m n → SeqL (m.map (setJ ps)) n
  | [], _, _ => trivial
  | x :: t, n, h => by
    rw [List.map_cons]
    rw [SeqL] at h ⊢
    rw [setJ_L]
    split
    · rename_i hL
      rw [if_pos hL] at h
      rw [setJ_lab ps hL]
      exact ⟨h.1, seq_map ps t _ h.2⟩
    · rename_i hL
      rw [if_neg hL] at h
      exact seq_map ps t _ h
theorem apart_map (ps : List (Int × Int)) : ∀ (m : List IN) (bes : Bool), Apart m bes → Apart (m.map (setJ ps)) bes
  | [], _, _ => trivial
  | x :: t, bes, h => by
    rw [List.map_cons]
    rw [Apart] at h ⊢
    rw [setJ_L]
    split
    · rename_i hL
      rw [if_pos hL] at h
      exact ⟨h.1, apart_map ps t _ h.2⟩
    · rename_i hL
      rw [if_neg hL] at h
      exact apart_map ps t _ h
theorem norm_is {l : List IN} (h : OnceL l) : IsNorm (normP l) := by
  have hnd : ((scanP l l false 0).2.map (·.1)).Nodup := by rw [scan_fst]; exact once_nodup h _
  unfold normP
  refine ⟨seq_map _ _ _ (scan_seq l l false 0), apart_map _ _ _ (scan_apart l l false 0), fun z hz hL => ?_, fun z hz hj => ?_⟩
  · obtain ⟨y, hy, rfl⟩ := List.mem_map.1 hz
    rw [setJ_L] at hL
    rw [setJ_lab _ hL]
    obtain ⟨p, hp, h1, h2, h3⟩ := scan_labels l l false 0 y hy hL
    obtain ⟨u, hu, hu2⟩ := List.any_eq_true.1 h3
    simp only [Bool.and_eq_true, beq_iff_eq] at hu2
    have hu3 : u ∈ (scanP l l false 0).1 := (scan_keeps l l false 0 u (isJ_L hu2.1)).2 hu
    refine List.any_eq_true.2 ⟨setJ (scanP l l false 0).2 u, List.mem_map_of_mem hu3, ?_⟩
    rw [setJ_J, hu2.1]
    unfold setJ
    rw [if_pos hu2.1]
    have h4 : lastN (scanP l l false 0).2 u.arg 0 = p.2 := lastN_mem _ _ _ _ hnd (by rw [hu2.2]; exact hp)
    rw [h4, h1]; simp
  · obtain ⟨y, hy, rfl⟩ := List.mem_map.1 hz
    rw [setJ_J] at hj
    have hyl : y ∈ l := (scan_keeps l l false 0 y (isJ_L hj)).1 hy
    obtain ⟨u, hu, huL, hua⟩ := h.2 y hyl hj
    have hA : askedL l u.arg = true := List.any_eq_true.2 ⟨y, hyl, by rw [hj, hua]; simp⟩
    have hm : u.arg ∈ (scanP l l false 0).2.map (·.1) := by
      rw [scan_fst]
      exact List.mem_map_of_mem (List.mem_filter.2 ⟨hu, by rw [huL, hA]; rfl⟩)
    obtain ⟨p, hp, hp1⟩ := List.mem_map.1 hm
    have h4 : lastN (scanP l l false 0).2 y.arg 0 = p.2 := lastN_mem _ _ _ _ hnd (by rw [← hua, ← hp1]; exact hp)
    have h5 : (setJ (scanP l l false 0).2 y).arg = p.2 := by unfold setJ; rw [if_pos hj]; exact h4
    rw [h5]
    rcases scan_vals l l false 0 p hp with ⟨h6, _⟩ | h6
    · cases h6
    · exact List.mem_map.2 ⟨_, h6, setJ_lab _ (isL_38 _)⟩
/-- The pairs of a normal form. -/
def pairsN (m : List IN) : List (Int × Int) := (m.filter isL).map fun x => (x.arg, x.arg)
theorem scan_norm (m : List IN) : ∀ (suf : List IN) (bes : Bool) (n : Int), SeqL suf n → Apart suf bes → (∀ z ∈ suf, isL z = true → askedL m z.arg = true) → scanP m suf bes n = (suf, pairsN suf)
  | [], _, _, _, _, _ => rfl
  | x :: t, bes, n, h1, h2, h3 => by
    have h3' := fun z hz => h3 z (List.mem_cons_of_mem _ hz)
    rw [SeqL] at h1
    rw [Apart] at h2
    rw [scanP]
    cases hL : isL x with
    | false =>
      rw [hL] at h1 h2
      rw [if_neg (by decide)] at h1 h2
      rw [if_pos rfl, scan_norm m t false n h1 h2 h3']
      unfold pairsN
      rw [List.filter_cons_of_neg (by rw [hL]; decide)]
    | true =>
      rw [hL] at h1 h2
      rw [if_pos rfl] at h1 h2
      have hA := h3 x (List.mem_cons_self ..) hL
      have hb : ¬ bes = true := by rw [h2.1]; decide
      rw [if_neg (by decide), hA, if_neg (by decide), if_neg hb, scan_norm m t true (n + 1) h1.2 h2.2 h3']
      unfold pairsN
      rw [List.filter_cons_of_pos hL, List.map_cons]
      have e : x = ⟨38, n⟩ := h1.1
      rw [← e]
      have e2 : x.arg = n := by rw [e]
      rw [e2]
theorem pairsN_last (a : Int) : ∀ (m : List IN) (v : Int), (⟨38, a⟩ : IN) ∈ m → lastN (pairsN m) a v = a := by
  have keep : ∀ (m : List IN), lastN (pairsN m) a a = a := by
    intro m
    induction m with
    | nil => rfl
    | cons x t ih =>
      unfold pairsN at ih ⊢
      by_cases hL : isL x = true
      · rw [List.filter_cons_of_pos hL, List.map_cons, lastN]
        show lastN _ a (if x.arg = a then x.arg else a) = a
        split
        · rename_i h; rw [h]; exact ih
        · exact ih
      · rw [List.filter_cons_of_neg hL]; exact ih
  intro m
  induction m with
  | nil => intro v h; cases h
  | cons x t ih =>
    intro v h
    unfold pairsN
    rcases List.mem_cons.1 h with e | h
    · subst e
      rw [List.filter_cons_of_pos (isL_38 a), List.map_cons, lastN]
      show lastN _ a (if a = a then a else v) = a
      rw [if_pos rfl]
      exact keep t
    · by_cases hL : isL x = true
      · rw [List.filter_cons_of_pos hL, List.map_cons, lastN]; exact ih _ h
      · rw [List.filter_cons_of_neg hL]; exact ih _ h
/-- What is normal stays. -/
theorem norm_idem {m : List IN} (h : IsNorm m) : normP m = m := by
  unfold normP
  rw [scan_norm m m false 0 h.seq h.apart h.asked]
  show m.map (setJ (pairsN m)) = m
  have : m.map (setJ (pairsN m)) = m.map id := List.map_congr_left (fun x hx => by
    unfold setJ
    by_cases hj : isJ x = true
    · rw [if_pos hj, pairsN_last x.arg m 0 (h.stands x hx hj)]; rfl
    · rw [if_neg hj]; rfl)
  rw [this, List.map_id]
end Go.Proofs.YtbcpopakdlplgaaDoor
namespace Go.Proofs.YtbcpopakdlplgaaDoor
set_option linter.unusedVariables false
set_option linter.unusedSimpArgs false

/-- How many bytes a number has. -/
def needN (n : Int) : Nat := if n = 0 then 0 else if -128 ≤ n ∧ n ≤ 127 then 1 else 2
theorem needN_le (n : Int) : needN n ≤ 2 := by unfold needN; split <;> (try split) <;> omega
theorem needN_up {a b : Int} (h : (0 ≤ a ∧ a ≤ b) ∨ (b ≤ a ∧ a ≤ 0)) : needN a ≤ needN b := by
  unfold needN
  split
  · omega
  · split
    · split
      · omega
      · split <;> omega
    · split
      · omega
      · split <;> omega
/-- An instruction's width: L the list, S the jumps' bytes, enc the others' widths. -/
def widN (enc : IN → Nat) (L : Nat → IN) (S : Nat → Nat) (i : Nat) : Nat := if isJ (L i) = true then 1 + S i else enc (L i)
def posN (w : Nat → Nat) : Nat → Nat
  | 0 => 0
  | k + 1 => posN w k + w k
theorem posN_up {w w' : Nat → Nat} (h : ∀ i, w i ≤ w' i) (a : Nat) : ∀ b, a ≤ b → posN w b + posN w' a ≤ posN w' b + posN w a
  | 0, hab => by have : a = 0 := by omega
                 subst this; omega
  | b + 1, hab => by
    by_cases e : a = b + 1
    · subst e; omega
    · have := posN_up h a b (by omega)
      have := h b
      rw [posN, posN]; omega
theorem posN_le {w : Nat → Nat} (a : Nat) : ∀ b, a ≤ b → posN w a ≤ posN w b
  | 0, hab => by have : a = 0 := by omega
                 subst this; omega
  | b + 1, hab => by
    by_cases e : a = b + 1
    · subst e; omega
    · have := posN_le (w := w) a b (by omega)
      rw [posN]; omega
/-- How far a jump is: T k is its label's place. -/
def farN (w : Nat → Nat) (T : Nat → Nat) (k : Nat) : Int := (posN w (T k) : Int) - posN w (k + 1)
theorem farN_up {w w' : Nat → Nat} (h : ∀ i, w i ≤ w' i) (T : Nat → Nat) (k : Nat) : (0 ≤ farN w T k ∧ farN w T k ≤ farN w' T k) ∨ (farN w' T k ≤ farN w T k ∧ farN w T k ≤ 0) := by
  unfold farN
  rcases Nat.le_total (k + 1) (T k) with hk | hk
  · left
    have h1 := posN_up h (k + 1) (T k) hk
    have h2 := posN_le (w := w) (k + 1) (T k) hk
    omega
  · right
    have h1 := posN_up h (T k) (k + 1) hk
    have h2 := posN_le (w := w) (T k) (k + 1) hk
    omega
theorem widN_up (enc : IN → Nat) (L : Nat → IN) {S S' : Nat → Nat} (h : ∀ i, S i ≤ S' i) (i : Nat) : widN enc L S i ≤ widN enc L S' i := by
  unfold widN
  have := h i
  split <;> omega
section
variable (enc : IN → Nat) (L : Nat → IN) (T : Nat → Nat)
/-- How many bytes a jump wants, the others having theirs. -/
def wantN (S : Nat → Nat) (k : Nat) : Nat := needN (farN (widN enc L S) T k)
theorem wantN_up {S S' : Nat → Nat} (h : ∀ i, S i ≤ S' i) (k : Nat) : wantN enc L T S k ≤ wantN enc L T S' k :=
  needN_up (farN_up (widN_up enc L h) T k)
/-- One jump is looked at. -/
def growK (S : Nat → Nat) (k : Nat) : Nat → Nat := if isJ (L k) = true ∧ S k < wantN enc L T S k then fun i => if i = k then wantN enc L T S k else S i else S
/-- All jumps are looked at, one after the other. -/
def sweepN : Nat → (Nat → Nat) → (Nat → Nat)
  | 0, S => S
  | k + 1, S => growK enc L T (sweepN k S) k
theorem growK_up (S : Nat → Nat) (k : Nat) : ∀ i, S i ≤ growK enc L T S k i := fun i => by
  unfold growK
  split
  · rename_i h
    show S i ≤ if i = k then _ else S i
    split
    · rename_i e; rw [e]; omega
    · exact Nat.le_refl _
  · exact Nat.le_refl _
theorem sweepN_up (S : Nat → Nat) : ∀ k i, S i ≤ sweepN enc L T k S i
  | 0, i => Nat.le_refl _
  | k + 1, i => Nat.le_trans (sweepN_up S k i) (growK_up enc L T _ k i)
/-- No jump has more bytes than it wants; others have none. -/
def Tight (S : Nat → Nat) : Prop := ∀ k, if isJ (L k) = true then S k ≤ wantN enc L T S k else S k = 0
theorem tight_zero : Tight enc L T (fun _ => 0) := fun k => by
  split
  · exact Nat.zero_le _
  · rfl
theorem growK_tight {S : Nat → Nat} (h : Tight enc L T S) (k : Nat) : Tight enc L T (growK enc L T S k) := fun i => by
  have hup := wantN_up enc L T (growK_up enc L T S k)
  have hi := h i
  have key : growK enc L T S k i = S i ∨ (i = k ∧ isJ (L k) = true ∧ growK enc L T S k i = wantN enc L T S k) := by
    unfold growK
    split
    · rename_i hc
      show (if i = k then _ else S i) = S i ∨ (i = k ∧ isJ (L k) = true ∧ (if i = k then _ else S i) = _)
      by_cases e : i = k
      · right; exact ⟨e, hc.1, if_pos e⟩
      · left; exact if_neg e
    · exact .inl rfl
  rcases key with h1 | ⟨e, hj, h1⟩
  · rw [h1]
    split
    · rename_i hj
      rw [if_pos hj] at hi
      exact Nat.le_trans hi (hup i)
    · rename_i hj
      rw [if_neg hj] at hi
      exact hi
  · rw [h1, e, if_pos hj]
    exact hup k
theorem sweepN_tight {S : Nat → Nat} (h : Tight enc L T S) : ∀ k, Tight enc L T (sweepN enc L T k S)
  | 0 => h
  | k + 1 => growK_tight enc L T (sweepN_tight h k) k
/-- Enough for each jump. -/
def Enough (n : Nat) (S : Nat → Nat) : Prop := ∀ k, k < n → isJ (L k) = true → wantN enc L T S k ≤ S k
/-- Nothing grew: enough for each. -/
theorem enough_of {S : Nat → Nat} {n : Nat} (h : sweepN enc L T n S = S) : Enough enc L T n S := by
  have all : ∀ k, k ≤ n → sweepN enc L T k S = S := by
    intro k hk
    have h1 : ∀ m, sweepN enc L T (k + m) S = S → sweepN enc L T k S = S := by
      intro m
      induction m with
      | zero => exact id
      | succ m ih =>
        intro hm
        apply ih
        funext i
        have a := sweepN_up enc L T S (k + m) i
        have b := growK_up enc L T (sweepN enc L T (k + m) S) (k + m) i
        have c : growK enc L T (sweepN enc L T (k + m) S) (k + m) i = S i := congrFun hm i
        omega
    exact h1 (n - k) (by rw [show k + (n - k) = n by omega]; exact h)
  intro k hk hj
  have h1 := all (k + 1) (by omega)
  have h0 := all k (by omega)
  rw [sweepN, h0] at h1
  unfold growK at h1
  by_cases hc : isJ (L k) = true ∧ S k < wantN enc L T S k
  · rw [if_pos hc] at h1
    have := congrFun h1 k
    simp at this
    omega
  · exact Nat.le_of_not_lt (fun h => hc ⟨hj, h⟩)
/-- At the end each jump has just what it wants. -/
theorem least_eq {S : Nat → Nat} {n : Nat} (ht : Tight enc L T S) (he : Enough enc L T n S) (k : Nat) (hk : k < n) (hj : isJ (L k) = true) : S k = wantN enc L T S k := by
  have h1 := ht k
  rw [if_pos hj] at h1
  exact Nat.le_antisymm h1 (he k hk hj)
/-- What is enough is never passed. -/
theorem growK_below {S Q : Nat → Nat} {n : Nat} (h : ∀ i, S i ≤ Q i) (hq : Enough enc L T n Q) (k : Nat) (hk : k < n) : ∀ i, growK enc L T S k i ≤ Q i := fun i => by
  unfold growK
  split
  · rename_i hc
    show (if i = k then _ else S i) ≤ Q i
    split
    · rename_i e
      rw [e]
      exact Nat.le_trans (wantN_up enc L T h k) (hq k hk hc.1)
    · exact h i
  · exact h i
theorem sweepN_below {S Q : Nat → Nat} {n : Nat} (h : ∀ i, S i ≤ Q i) (hq : Enough enc L T n Q) : ∀ k, k ≤ n → ∀ i, sweepN enc L T k S i ≤ Q i
  | 0, _ => h
  | k + 1, hk => growK_below enc L T (sweepN_below h hq k (by omega)) hq k (by omega)
/-- How much all have. -/
def sumN (S : Nat → Nat) : Nat → Nat
  | 0 => 0
  | k + 1 => sumN S k + S k
theorem sumN_up {S S' : Nat → Nat} (h : ∀ i, S i ≤ S' i) : ∀ n, sumN S n ≤ sumN S' n
  | 0 => Nat.le_refl _
  | n + 1 => by have := sumN_up h n; have := h n; rw [sumN, sumN]; omega
theorem tight_two {S : Nat → Nat} (h : Tight enc L T S) (k : Nat) : S k ≤ 2 := by
  have h1 := h k
  split at h1
  · have := needN_le (farN (widN enc L S) T k)
    unfold wantN at h1
    omega
  · omega
theorem sumN_two {S : Nat → Nat} (h : Tight enc L T S) : ∀ n, sumN S n ≤ 2 * n
  | 0 => Nat.le_refl _
  | n + 1 => by have := sumN_two h n; have := tight_two enc L T h n; rw [sumN]; omega
/-- A jump that grew makes all more. -/
theorem sumN_lt {S S' : Nat → Nat} (h : ∀ i, S i ≤ S' i) (k : Nat) (hk : S k < S' k) : ∀ n, k < n → sumN S n < sumN S' n
  | n + 1, hn => by
    rw [sumN, sumN]
    by_cases e : k = n
    · subst e; have := sumN_up h k; omega
    · have := sumN_lt h k hk n (by omega); have := h n; omega
/-- Beyond the list nothing grows. -/
theorem sweepN_out (S : Nat → Nat) : ∀ k i, k ≤ i → sweepN enc L T k S i = S i
  | 0, i, _ => rfl
  | k + 1, i, h => by
    rw [sweepN]
    unfold growK
    split
    · show (if i = k then _ else _) = _
      rw [if_neg (by omega), sweepN_out S k i (by omega)]
    · exact sweepN_out S k i (by omega)
end
end Go.Proofs.YtbcpopakdlplgaaDoor
namespace Go.Proofs.YtbcpopakdlplgaaDoor
set_option linter.unusedVariables false
set_option linter.unusedSimpArgs false

/-- A number's last byte. -/
def by8 (n : Int) : UInt8 := UInt8.ofNat (n % 256).toNat
theorem by8_nat (n : Int) : ((by8 n).toNat : Int) = n % 256 := by
  unfold by8
  have h1 : 0 ≤ n % 256 := Int.emod_nonneg _ (by decide)
  have h2 : n % 256 < 256 := Int.emod_lt_of_pos _ (by decide)
  rw [UInt8.toNat_ofNat']
  have : (n % 256).toNat % 2 ^ 8 = (n % 256).toNat := Nat.mod_eq_of_lt (by omega)
  rw [this]; omega
/-- A byte with a sign. -/
def sg8 (c : UInt8) : Int := if (c.toNat : Int) < 128 then c.toNat else (c.toNat : Int) - 256
/-- A number of so many bytes. -/
def argB (n : Int) (s : Nat) : List UInt8 := if s = 0 then [] else if s = 1 then [by8 n] else [by8 (n / 256), by8 n]
def valB : List UInt8 → Int
  | [] => 0
  | [c] => sg8 c
  | c :: d :: _ => sg8 c * 256 + d.toNat
theorem argB_len (n : Int) (s : Nat) (h : s ≤ 2) : (argB n s).length = s := by
  unfold argB
  split
  · rename_i e; rw [e]; rfl
  · split
    · rename_i e; rw [e]; rfl
    · show 2 = s; omega
theorem val_arg (n : Int) (s : Nat) (hs : s ≤ 2) (hn : needN n ≤ s) (h16 : -32768 ≤ n ∧ n ≤ 32767) : valB (argB n s) = n := by
  unfold needN at hn
  unfold argB
  split
  · rename_i e
    subst e
    show (0 : Int) = n
    split at hn
    · omega
    · split at hn <;> omega
  · split
    · rename_i e0 e
      subst e
      show sg8 (by8 n) = n
      unfold sg8
      rw [by8_nat]
      split at hn
      · rename_i h; subst h; decide
      · split at hn
        · split <;> omega
        · omega
    · show sg8 (by8 (n / 256)) * 256 + ((by8 n).toNat : Int) = n
      unfold sg8
      rw [by8_nat, by8_nat]
      split <;> omega
theorem valB_bd (l : List UInt8) : -32768 ≤ valB l ∧ valB l ≤ 32767 := by
  have hb : ∀ c : UInt8, -128 ≤ sg8 c ∧ sg8 c ≤ 127 := fun c => by
    have := UInt8.toNat_lt c
    unfold sg8
    split <;> omega
  match l with
  | [] => exact ⟨by decide, by decide⟩
  | [c] => have := hb c; exact ⟨by show -32768 ≤ sg8 c; omega, by show sg8 c ≤ 32767; omega⟩
  | c :: d :: _ =>
    have h1 := hb c
    have h2 := UInt8.toNat_lt d
    exact ⟨by show -32768 ≤ sg8 c * 256 + (d.toNat : Int); omega, by show sg8 c * 256 + (d.toNat : Int) ≤ 32767; omega⟩
theorem needN_one {z : Int} (h : -128 ≤ z ∧ z ≤ 127) : needN z ≤ 1 := by
  unfold needN
  split
  · omega
  · first | omega | (split <;> omega)
/-- What so many bytes hold wants no more. -/
theorem need_val (l : List UInt8) (h : l.length ≤ 2) : needN (valB l) ≤ l.length := by
  match l, h with
  | [], _ => decide
  | [c], _ =>
    have := UInt8.toNat_lt c
    exact needN_one (z := sg8 c) (by unfold sg8; split <;> omega)
  | [c, d], _ => exact needN_le _
/-- The operations with an argument. -/
def hasA (op : Int) : Bool := [1, 3, 4, 5, 6, 7, 8, 12, 13, 14, 15, 16, 19, 21, 24, 25, 26, 32, 33, 38].contains op
/-- A number, wrapped to sixteen bits. -/
def wrap16 (n : Int) : Int := (n + 32768) % 65536 - 32768
theorem wrap16_bd (n : Int) : -32768 ≤ wrap16 n ∧ wrap16 n ≤ 32767 := by unfold wrap16; omega
theorem wrap16_id {n : Int} (h : -32768 ≤ n ∧ n ≤ 32767) : wrap16 n = n := by unfold wrap16; omega
def argI (x : IN) : Int := if hasA x.op = true then wrap16 x.arg else 0
/-- An instruction that has so many bytes of argument. -/
def encS (op n : Int) (s : Nat) : List UInt8 := by8 (4 * op + s) :: argB n s
/-- An instruction as bytes, as few as can be. -/
def encI (x : IN) : List UInt8 := if x.op < 1 ∨ 38 ≤ x.op then [] else encS x.op (argI x) (needN (argI x))
/-- What bytes begin with: an error, or an instruction and how many bytes it has. -/
def decI : List UInt8 → Int ⊕ (IN × Nat)
  | [] => .inl 2
  | c :: t =>
    if (c.toNat : Int) / 4 < 1 ∨ 38 ≤ (c.toNat : Int) / 4 ∨ c.toNat % 4 = 3 ∨ (0 < c.toNat % 4 ∧ hasA ((c.toNat : Int) / 4) = false) then .inl 16
    else if t.length < c.toNat % 4 then .inl 2
    else if needN (valB (t.take (c.toNat % 4))) ≠ c.toNat % 4 ∧ (c.toNat : Int) / 4 ≠ 24 ∧ (c.toNat : Int) / 4 ≠ 25 then .inl 4
    else .inr (⟨(c.toNat : Int) / 4, valB (t.take (c.toNat % 4))⟩, 1 + c.toNat % 4)
/-- An operation that stands in code. -/
def opOk (op : Int) : Prop := 1 ≤ op ∧ op < 38
/-- Bytes that were written are read. -/
theorem dec_enc (op n : Int) (s : Nat) (rest : List UInt8) (ho : opOk op) (hs : s ≤ 2) (hn : needN n ≤ s) (h16 : -32768 ≤ n ∧ n ≤ 32767) (ha : 0 < s → hasA op = true) (hz : s = needN n ∨ op = 24 ∨ op = 25) : decI (encS op n s ++ rest) = .inr (⟨op, n⟩, 1 + s) := by
  unfold opOk at ho
  have hb : ((by8 (4 * op + s)).toNat : Int) = 4 * op + s := by rw [by8_nat]; omega
  unfold encS
  rw [List.cons_append, decI]
  generalize by8 (4 * op + s) = c at hb
  have h4 : (c.toNat : Int) / 4 = op := by omega
  have hm : c.toNat % 4 = s := by omega
  rw [h4, hm, if_neg (by
    rintro (h | h | h | ⟨h1, h2⟩)
    · omega
    · omega
    · omega
    · rw [ha h1] at h2; cases h2), if_neg (by rw [List.length_append, argB_len n s hs]; omega)]
  have e : (argB n s ++ rest).take s = argB n s := by
    rw [List.take_append_of_le_length (Nat.le_of_eq (argB_len n s hs).symm), List.take_of_length_le (Nat.le_of_eq (argB_len n s hs))]
  rw [e, val_arg n s hs hn h16, if_neg (by
    rintro ⟨h1, h2, h3⟩
    rcases hz with h | h | h
    · exact h1 h.symm
    · exact h2 h
    · exact h3 h)]
theorem encS_len (op n : Int) (s : Nat) (hs : s ≤ 2) : (encS op n s).length = 1 + s := by
  unfold encS; rw [List.length_cons, argB_len n s hs]; omega
/-- What was read is an instruction that may stand in code, in no fewer bytes than it wants. -/
theorem dec_ok {b : List UInt8} {x : IN} {k : Nat} (h : decI b = .inr (x, k)) : opOk x.op ∧ (-32768 ≤ x.arg ∧ x.arg ≤ 32767) ∧ 1 ≤ k ∧ k ≤ 3 ∧ k ≤ b.length ∧ 1 + needN x.arg ≤ k ∧ (x.arg ≠ 0 → hasA x.op = true) := by
  cases b with
  | nil => simp [decI] at h
  | cons c t =>
    rw [decI] at h
    split at h
    · cases h
    · rename_i h1
      split at h
      · cases h
      · rename_i h2
        split at h
        · cases h
        · rename_i h2f
          have h3 := Sum.inr.inj h
          have e1 : (⟨(c.toNat : Int) / 4, valB (t.take (c.toNat % 4))⟩ : IN) = x := congrArg Prod.fst h3
          have e2 : 1 + c.toNat % 4 = k := congrArg Prod.snd h3
          subst e1
          subst e2
          have hl : (t.take (c.toNat % 4)).length = c.toNat % 4 := by rw [List.length_take]; omega
          have hk2 : c.toNat % 4 ≤ 2 := by omega
          refine ⟨by unfold opOk; show _ ∧ _; simp only; omega, valB_bd _, by omega, by omega, by rw [List.length_cons]; omega, ?_, fun hz => ?_⟩
          · have := need_val (t.take (c.toNat % 4)) (by omega)
            show 1 + needN (valB _) ≤ _
            omega
          · by_cases h0 : c.toNat % 4 = 0
            · exfalso
              apply hz
              show valB (t.take (c.toNat % 4)) = 0
              rw [h0]; rfl
            · cases hh : hasA ((c.toNat : Int) / 4) with
              | true => rfl
              | false => exact absurd (.inr (.inr (.inr ⟨by omega, hh⟩))) h1
end Go.Proofs.YtbcpopakdlplgaaDoor
namespace Go.Proofs.YtbcpopakdlplgaaDoor
set_option linter.unusedVariables false
set_option linter.unusedSimpArgs false

/-- How many instructions are no labels. -/
def ixN : List IN → Nat
  | [] => 0
  | x :: t => (if isL x = true then 0 else 1) + ixN t
theorem ixN_app : ∀ (a b : List IN), ixN (a ++ b) = ixN a + ixN b
  | [], b => by simp [ixN]
  | x :: t, b => by rw [List.cons_append, ixN, ixN, ixN_app t b]; omega
/-- The place, among those that are no labels, where a label stands first. -/
def idxOf (a : Int) : List IN → Nat → Nat
  | [], i => i
  | x :: t, i => if isL x = true ∧ x.arg = a then i else idxOf a t (if isL x = true then i else i + 1)
theorem idxOf_at (a : Int) : ∀ (p : List IN) (u : IN) (t : List IN) (i : Nat), isL u = true → u.arg = a → (∀ y ∈ p, isL y = true → y.arg ≠ a) → idxOf a (p ++ u :: t) i = i + ixN p
  | [], u, t, i, hu, ha, _ => by rw [List.nil_append, idxOf, if_pos ⟨hu, ha⟩]; rfl
  | y :: p, u, t, i, hu, ha, hn => by
    rw [List.cons_append, idxOf, if_neg (fun h => hn y (List.mem_cons_self ..) h.1 h.2), idxOf_at a p u t _ hu ha (fun z hz => hn z (List.mem_cons_of_mem _ hz)), ixN]
    split <;> omega
/-- An instruction; a jump's argument is the place to which it leads. -/
def resL (l0 : List IN) (x : IN) : IN := if isJ x = true then ⟨x.op, idxOf x.arg l0 0⟩ else x
def RL (l : List IN) : List IN := (l.filter fun x => !isL x).map (resL l)
/-- Does a jump lead to a place? -/
def askI (rs : List IN) (i : Nat) : Bool := rs.any fun x => isJ x && x.arg == (i : Int)
/-- How many places ahead are led to. -/
def rankI (rs : List IN) : Nat → Nat
  | 0 => 0
  | i + 1 => rankI rs i + (if askI rs i = true then 1 else 0)
/-- A normal form, built. -/
def bldGo (rs : List IN) : List IN → Nat → Bool → List IN
  | [], i, bes => if askI rs i = true ∧ bes = false then [⟨38, rankI rs i⟩] else []
  | x :: t, i, bes => (if askI rs i = true ∧ bes = false then [⟨38, (rankI rs i : Int)⟩] else []) ++ (if isJ x = true then ⟨x.op, rankI rs x.arg.toNat⟩ else x) :: bldGo rs t (i + 1) false
def buildN (rs : List IN) : List IN := bldGo rs rs 0 false
theorem resL_J (l0 : List IN) (x : IN) : isJ (resL l0 x) = isJ x := by
  unfold resL
  split
  · rfl
  · rfl
/-- A label stands at one place. -/
theorem once_idx {l : List IN} (h : OnceL l) {p t : List IN} {u : IN} (e : l = p ++ u :: t) (hu : isL u = true) : idxOf u.arg l 0 = ixN p := by
  rw [e, idxOf_at u.arg p u t 0 hu rfl (fun y hy hL ha => ?_), Nat.zero_add]
  obtain ⟨k, hk, rfl⟩ := List.getElem_of_mem hy
  have hk2 : k < l.length := by rw [e, List.length_append]; omega
  have hp2 : p.length < l.length := by rw [e, List.length_append, List.length_cons]; omega
  have e1 : l[k] = p[k] := by
    have : l[k]? = p[k]? := by rw [e, List.getElem?_append_left hk]
    rw [List.getElem?_eq_getElem hk2, List.getElem?_eq_getElem hk] at this
    exact Option.some.inj this
  have e2 : l[p.length] = u := by
    have : l[p.length]? = some u := by rw [e, List.getElem?_append_right (Nat.le_refl _)]; simp
    rw [List.getElem?_eq_getElem hp2] at this
    exact Option.some.inj this
  have := h.1 k p.length hk2 hp2 (by rw [e1]; exact hL) (by rw [e2]; exact hu) (by rw [e1, e2]; exact ha)
  omega
/-- All labels. -/
theorem bes_labels (l0 : List IN) : ∀ (m : List IN), (∀ y ∈ m, isL y = true) → besGo l0 m true = true
  | [], _ => rfl
  | x :: t, h => by
    rw [besGo, if_neg (by rw [h x (List.mem_cons_self ..)]; decide), if_neg (by simp)]
    exact bes_labels l0 t (fun y hy => h y (List.mem_cons_of_mem _ hy))
theorem ixN_zero : ∀ (m : List IN), ixN m = 0 → ∀ y ∈ m, isL y = true
  | x :: t, h, y, hy => by
    rw [ixN] at h
    by_cases hx : isL x = true
    · rw [if_pos hx] at h
      rcases List.mem_cons.1 hy with rfl | hy
      · exact hx
      · exact ixN_zero t (by omega) y hy
    · rw [if_neg hx] at h; omega
/-- Where a label stands just ahead, it is an asked one, and no more than labels stand behind it. -/
def BesEx (l0 pre : List IN) : Prop := ∃ p u m, pre = p ++ u :: m ∧ isL u = true ∧ askedL l0 u.arg = true ∧ ixN m = 0
theorem bes_snoc (l0 a : List IN) (x : IN) (ih : besGo l0 a false = true → BesEx l0 a) (h : besGo l0 (a ++ [x]) false = true) : BesEx l0 (a ++ [x]) := by
  rw [besGo_app] at h
  rw [besGo] at h
  split at h
  · cases h
  · rename_i hL
    have hL' : isL x = true := by simpa using hL
    split at h
    · rename_i hc
      exact ⟨a, x, [], rfl, hL', hc.1, rfl⟩
    · obtain ⟨p, u, m, e, h1, h2, h3⟩ := ih h
      refine ⟨p, u, m ++ [x], by rw [e]; simp, h1, h2, ?_⟩
      rw [ixN_app, h3, ixN, if_pos hL']; rfl
theorem bes_ex' (l0 : List IN) : ∀ (b a : List IN), (besGo l0 a false = true → BesEx l0 a) → besGo l0 (a ++ b) false = true → BesEx l0 (a ++ b)
  | [], a, h, hb => by rw [List.append_nil] at hb ⊢; exact h hb
  | x :: t, a, h, hb => by
    have e : a ++ x :: t = (a ++ [x]) ++ t := by simp
    rw [e] at hb ⊢
    exact bes_ex' l0 t (a ++ [x]) (bes_snoc l0 a x h) hb
theorem bes_ex (l0 : List IN) (pre : List IN) (h : besGo l0 pre false = true) : ∃ p u m, pre = p ++ u :: m ∧ isL u = true ∧ askedL l0 u.arg = true ∧ ixN m = 0 :=
  bes_ex' l0 pre [] (fun h => by cases h) h
theorem ask_of {l : List IN} (h : OnceL l) {i : Nat} : askI (RL l) i = true ↔ ∃ p u t, l = p ++ u :: t ∧ isL u = true ∧ askedL l u.arg = true ∧ ixN p = i := by
  constructor
  · intro ha
    obtain ⟨z, hz, hz2⟩ := List.any_eq_true.1 ha
    obtain ⟨y, hy, rfl⟩ := List.mem_map.1 hz
    simp only [Bool.and_eq_true, beq_iff_eq] at hz2
    rw [resL_J] at hz2
    have hyl := (List.mem_filter.1 hy).1
    obtain ⟨u, hu, huL, hua⟩ := h.2 y hyl hz2.1
    obtain ⟨p, t, e⟩ := List.append_of_mem hu
    refine ⟨p, u, t, e, huL, List.any_eq_true.2 ⟨y, hyl, by rw [hz2.1, hua]; simp⟩, ?_⟩
    have h1 := once_idx h e huL
    have h2 := hz2.2
    unfold resL at h2
    rw [if_pos hz2.1] at h2
    have h3 : (idxOf y.arg l 0 : Int) = i := h2
    rw [← hua, h1] at h3
    omega
  · rintro ⟨p, u, t, e, huL, hA, rfl⟩
    obtain ⟨y, hy, hy2⟩ := List.any_eq_true.1 hA
    simp only [Bool.and_eq_true, beq_iff_eq] at hy2
    have h1 := once_idx h e huL
    refine List.any_eq_true.2 ⟨resL l y, List.mem_map_of_mem (List.mem_filter.2 ⟨hy, by rw [isJ_L hy2.1]; rfl⟩), ?_⟩
    rw [resL_J, hy2.1]
    unfold resL
    rw [if_pos hy2.1]
    show (true && ((idxOf y.arg l 0 : Int) == (ixN p : Int))) = true
    rw [hy2.2, h1]; simp
/-- Ahead of an instruction that is no label, and at the end, all asked labels of the place have been met. -/
theorem ask_met {l : List IN} (h : OnceL l) {pre suf : List IN} (e : l = pre ++ suf) (hs : ∀ x t, suf = x :: t → isL x = false) (ha : askI (RL l) (ixN pre) = true) : besGo l pre false = true := by
  obtain ⟨p, u, t, e2, huL, hA, hi⟩ := (ask_of h).1 ha
  have hlt : p.length < pre.length := by
    rcases Nat.lt_or_ge p.length pre.length with h1 | h1
    · exact h1
    · exfalso
      rw [e] at e2
      obtain ⟨q, rfl⟩ : ∃ q, p = pre ++ q := by
        refine ⟨p.drop pre.length, ?_⟩
        have := congrArg (List.take pre.length) e2
        rw [List.take_append_of_le_length (Nat.le_refl _), List.take_length, List.take_append_of_le_length h1] at this
        conv => lhs; rw [← List.take_append_drop pre.length p]
        rw [← this]
      rw [List.append_assoc] at e2
      have e3 := List.append_cancel_left e2
      cases q with
      | nil =>
        have := hs u t e3
        rw [huL] at this; cases this
      | cons y q =>
        have := hs y (q ++ u :: t) e3
        rw [ixN_app, ixN, if_neg (by rw [this]; decide)] at hi
        omega
  obtain ⟨m, hm⟩ : ∃ m, pre = p ++ u :: m := by
    rw [e] at e2
    refine ⟨(pre.drop p.length).drop 1, ?_⟩
    have h1 := congrArg (List.take p.length) e2
    rw [List.take_append_of_le_length (by omega), List.take_append_of_le_length (Nat.le_refl _), List.take_length] at h1
    have h2 := congrArg (fun l => l[p.length]?) e2
    rw [List.getElem?_append_left hlt, List.getElem?_append_right (Nat.le_refl _)] at h2
    simp at h2
    have h3 : pre.drop p.length = u :: (pre.drop p.length).drop 1 := by
      rw [List.drop_eq_getElem_cons hlt]
      have : pre[p.length] = u := by rw [List.getElem?_eq_getElem hlt] at h2; exact Option.some.inj h2
      rw [this]; simp
    rw [← h3]
    conv => lhs; rw [← List.take_append_drop p.length pre]
    rw [h1]
  have hm0 : ixN m = 0 := by
    rw [hm, ixN_app, ixN, if_pos huL] at hi
    omega
  rw [hm, besGo_app, besGo, if_neg (by rw [huL]; decide)]
  split
  · exact bes_labels l m (ixN_zero m hm0)
  · rename_i hc
    have : besGo l p false = true := by
      cases hb : besGo l p false with
      | true => rfl
      | false => exact absurd ⟨hA, hb⟩ hc
    rw [this]
    exact bes_labels l m (ixN_zero m hm0)
theorem bes_ask {l : List IN} (h : OnceL l) {pre suf : List IN} (e : l = pre ++ suf) (hb : besGo l pre false = true) : askI (RL l) (ixN pre) = true := by
  obtain ⟨p, u, m, e2, h1, h2, h3⟩ := bes_ex l pre hb
  refine (ask_of h).2 ⟨p, u, m ++ suf, by rw [e, e2]; simp, h1, h2, ?_⟩
  rw [e2, ixN_app, ixN, if_pos h1, h3]
  omega
theorem num_step {l : List IN} (h : OnceL l) (a : List IN) (x : IN) (t : List IN) (e : l = (a ++ [x]) ++ t)
    (q : numGo l a false (-1) + 1 = (rankI (RL l) (ixN a) : Int) + (if besGo l a false = true then 1 else 0)) :
    numGo l (a ++ [x]) false (-1) + 1 = (rankI (RL l) (ixN (a ++ [x])) : Int) + (if besGo l (a ++ [x]) false = true then 1 else 0) := by
  have e' : l = a ++ (x :: t) := by rw [e]; simp
  rw [numGo_app, besGo_app, ixN_app]
  cases hL : isL x with
  | false =>
    have e1 : besGo l [x] (besGo l a false) = false := by rw [besGo, if_pos hL]; rfl
    have e2 : numGo l [x] (besGo l a false) (numGo l a false (-1)) = numGo l a false (-1) := by rw [numGo, if_pos hL]; rfl
    have e3 : ixN [x] = 1 := by rw [ixN, if_neg (by rw [hL]; decide)]; rfl
    rw [e1, e2, e3, rankI, q]
    cases hb : besGo l a false with
    | true =>
      rw [bes_ask h e' hb]; simp
    | false =>
      have : askI (RL l) (ixN a) = false := by
        cases ha : askI (RL l) (ixN a) with
        | false => rfl
        | true =>
          have := ask_met h e' (fun y s hy => by rw [← (List.cons.inj hy).1]; exact hL) ha
          rw [hb] at this; cases this
      rw [this]; simp
  | true =>
    have e3 : ixN [x] = 0 := by rw [ixN, if_pos hL]; rfl
    rw [e3, Nat.add_zero]
    by_cases hc : askedL l x.arg = true ∧ besGo l a false = false
    · have e1 : besGo l [x] (besGo l a false) = true := by rw [besGo, if_neg (by rw [hL]; decide), if_pos hc]; rfl
      have e2 : numGo l [x] (besGo l a false) (numGo l a false (-1)) = numGo l a false (-1) + 1 := by rw [numGo, if_neg (by rw [hL]; decide), if_pos hc]; rfl
      rw [e1, e2, q, hc.2]; simp
    · have e1 : besGo l [x] (besGo l a false) = besGo l a false := by rw [besGo, if_neg (by rw [hL]; decide), if_neg hc]; rfl
      have e2 : numGo l [x] (besGo l a false) (numGo l a false (-1)) = numGo l a false (-1) := by rw [numGo, if_neg (by rw [hL]; decide), if_neg hc]; rfl
      rw [e1, e2, q]
theorem num_rank' {l : List IN} (h : OnceL l) : ∀ (b a t : List IN), l = (a ++ b) ++ t → (numGo l a false (-1) + 1 = (rankI (RL l) (ixN a) : Int) + (if besGo l a false = true then 1 else 0)) →
    numGo l (a ++ b) false (-1) + 1 = (rankI (RL l) (ixN (a ++ b)) : Int) + (if besGo l (a ++ b) false = true then 1 else 0)
  | [], a, t, _, q => by rw [List.append_nil]; exact q
  | x :: b, a, t, e, q => by
    have e1 : a ++ x :: b = (a ++ [x]) ++ b := by simp
    rw [e1]
    exact num_rank' h b (a ++ [x]) t (by rw [e, e1]) (num_step h a x (b ++ t) (by rw [e]; simp) q)
theorem num_rank {l : List IN} (h : OnceL l) {pre suf : List IN} (e : l = pre ++ suf) : numGo l pre false (-1) + 1 = (rankI (RL l) (ixN pre) : Int) + (if besGo l pre false = true then 1 else 0) :=
  num_rank' h pre [] suf e rfl
theorem number_rank {l : List IN} (h : OnceL l) {p t : List IN} {u : IN} (e : l = p ++ u :: t) (hu : isL u = true) (hA : askedL l u.arg = true) : numberR l p.length = rankI (RL l) (ixN p) := by
  rw [numberR_at l p u t e]
  have q := num_rank h e
  cases hb : besGo l p false with
  | true =>
    rw [hb] at q
    rw [numGo, if_neg (by rw [hu]; decide), if_neg (by simp)]
    show numGo l p false (-1) = _
    simp at q
    omega
  | false =>
    rw [hb] at q
    rw [numGo, if_neg (by rw [hu]; decide), if_pos ⟨hA, rfl⟩]
    show numGo l p false (-1) + 1 = _
    simp at q
    omega
theorem stnd_at (a : Int) : ∀ (p : List IN) (u : IN) (t : List IN) (i : Nat), isL u = true → u.arg = a → (∀ y ∈ p, isL y = true → y.arg ≠ a) → stndGo a (p ++ u :: t) i = ((i + p.length : Nat) : Int)
  | [], u, t, i, hu, ha, _ => by rw [List.nil_append, stndGo, if_pos ⟨hu, ha⟩]; rfl
  | y :: p, u, t, i, hu, ha, hn => by
    rw [List.cons_append, stndGo, if_neg (fun h => hn y (List.mem_cons_self ..) h.1 h.2), stnd_at a p u t _ hu ha (fun z hz => hn z (List.mem_cons_of_mem _ hz)), List.length_cons]
    omega
theorem once_no {l : List IN} (h : OnceL l) {p t : List IN} {u : IN} (e : l = p ++ u :: t) (hu : isL u = true) : ∀ y ∈ p, isL y = true → y.arg ≠ u.arg := by
  intro y hy hL ha
  obtain ⟨k, hk, rfl⟩ := List.getElem_of_mem hy
  have hk2 : k < l.length := by rw [e, List.length_append]; omega
  have hp2 : p.length < l.length := by rw [e, List.length_append, List.length_cons]; omega
  have e1 : l[k] = p[k] := by
    have : l[k]? = p[k]? := by rw [e, List.getElem?_append_left hk]
    rw [List.getElem?_eq_getElem hk2, List.getElem?_eq_getElem hk] at this
    exact Option.some.inj this
  have e2 : l[p.length] = u := by
    have : l[p.length]? = some u := by rw [e, List.getElem?_append_right (Nat.le_refl _)]; simp
    rw [List.getElem?_eq_getElem hp2] at this
    exact Option.some.inj this
  have := h.1 k p.length hk2 hp2 (by rw [e1]; exact hL) (by rw [e2]; exact hu) (by rw [e1, e2]; exact ha)
  omega
theorem pairs_rank {l : List IN} (h : OnceL l) {x : IN} (hx : x ∈ l) (hj : isJ x = true) : lastN (pairsR l l 0) x.arg 0 = rankI (RL l) (idxOf x.arg l 0) := by
  obtain ⟨u, hu, huL, hua⟩ := h.2 x hx hj
  obtain ⟨p, t, e⟩ := List.append_of_mem hu
  have hA : askedL l x.arg = true := List.any_eq_true.2 ⟨x, hx, by rw [hj]; simp⟩
  rw [pairs_at l x.arg hA l 0 0 ⟨u, hu, huL, hua⟩ h.1]
  have h1 : stndGo x.arg l 0 = ((0 + p.length : Nat) : Int) := by
    have := stnd_at x.arg p u t 0 huL hua (fun y hy hL => by rw [← hua]; exact once_no h e huL y hy hL)
    rw [← e] at this; exact this
  have h2 : idxOf x.arg l 0 = ixN p := by rw [← hua]; exact once_idx h e huL
  rw [h1, h2, Nat.zero_add]
  exact number_rank h e huL (by rw [hua]; exact hA)
theorem bld_cons (rs : List IN) (x : IN) (t : List IN) (i : Nat) (bes : Bool) : bldGo rs (x :: t) i bes = (if askI rs i = true ∧ bes = false then [⟨38, (rankI rs i : Int)⟩] else []) ++ (if isJ x = true then ⟨x.op, rankI rs x.arg.toNat⟩ else x) :: bldGo rs t (i + 1) false := rfl
theorem bld_lab (rs : List IN) {i : Nat} (ha : askI rs i = true) : ∀ (rest : List IN), bldGo rs rest i false = ⟨38, rankI rs i⟩ :: bldGo rs rest i true
  | [] => by rw [bldGo, if_pos ⟨ha, rfl⟩, bldGo, if_neg (by simp)]
  | x :: t => by rw [bld_cons, bld_cons, if_pos ⟨ha, rfl⟩, if_neg (c := askI rs i = true ∧ true = false) (fun h => by cases h.2)]; rfl
theorem scan_build {l : List IN} (h : OnceL l) (f : IN → IN) (hf : ∀ x ∈ l, isJ x = true → f x = ⟨x.op, rankI (RL l) (idxOf x.arg l 0)⟩) (hg : ∀ x, isJ x = false → f x = x) :
    ∀ (suf pre : List IN), l = pre ++ suf → (scanP l suf (besGo l pre false) (numGo l pre false (-1) + 1)).1.map f = bldGo (RL l) ((suf.filter fun x => !isL x).map (resL l)) (ixN pre) (besGo l pre false)
  | [], pre, e => by
    show [] = bldGo (RL l) [] (ixN pre) (besGo l pre false)
    rw [bldGo, if_neg]
    rintro ⟨ha, hb⟩
    have := ask_met h e (fun x t hx => by cases hx) ha
    rw [hb] at this; cases this
  | x :: t, pre, e => by
    have e' : l = (pre ++ [x]) ++ t := by rw [e]; simp
    have ih := scan_build h f hf hg t (pre ++ [x]) e'
    have q := num_rank h e
    rw [besGo_app, numGo_app, ixN_app] at ih
    rw [scanP]
    cases hL : isL x with
    | false =>
      have e1 : besGo l [x] (besGo l pre false) = false := by rw [besGo, if_pos hL]; rfl
      have e2 : numGo l [x] (besGo l pre false) (numGo l pre false (-1)) = numGo l pre false (-1) := by rw [numGo, if_pos hL]; rfl
      have e3 : ixN [x] = 1 := by rw [ixN, if_neg (by rw [hL]; decide)]; rfl
      rw [e1, e2, e3] at ih
      rw [if_pos rfl, List.filter_cons_of_pos (by rw [hL]; rfl), List.map_cons, List.map_cons, bld_cons, if_neg (c := askI (RL l) (ixN pre) = true ∧ besGo l pre false = false) (by
        rintro ⟨ha, hb⟩
        have := ask_met h e (fun y s hy => by rw [← (List.cons.inj hy).1]; exact hL) ha
        rw [hb] at this; cases this), List.nil_append]
      show f x :: List.map f _ = _
      rw [ih, resL_J]
      congr 1
      by_cases hj : isJ x = true
      · rw [hf x (by rw [e]; simp) hj, if_pos hj]
        unfold resL
        rw [if_pos hj]
        show _ = (⟨x.op, rankI (RL l) ((idxOf x.arg l 0 : Int)).toNat⟩ : IN)
        rw [Int.toNat_natCast]
      · rw [hg x (by simpa using hj), if_neg hj]
        unfold resL
        rw [if_neg hj]
    | true =>
      have e3 : ixN [x] = 0 := by rw [ixN, if_pos hL]; rfl
      rw [e3, Nat.add_zero] at ih
      rw [if_neg (by decide), List.filter_cons_of_neg (by rw [hL]; decide)]
      cases hA : askedL l x.arg with
      | false =>
        have hc : ¬ (askedL l x.arg = true ∧ besGo l pre false = false) := by rw [hA]; simp
        have e1 : besGo l [x] (besGo l pre false) = besGo l pre false := by rw [besGo, if_neg (by rw [hL]; decide), if_neg hc]; rfl
        have e2 : numGo l [x] (besGo l pre false) (numGo l pre false (-1)) = numGo l pre false (-1) := by rw [numGo, if_neg (by rw [hL]; decide), if_neg hc]; rfl
        rw [e1, e2] at ih
        rw [if_pos rfl]
        exact ih
      | true =>
        rw [if_neg (by decide)]
        cases hb : besGo l pre false with
        | true =>
          have hc : ¬ (askedL l x.arg = true ∧ besGo l pre false = false) := by rw [hb]; simp
          have e1 : besGo l [x] (besGo l pre false) = besGo l pre false := by rw [besGo, if_neg (by rw [hL]; decide), if_neg hc]; rfl
          have e2 : numGo l [x] (besGo l pre false) (numGo l pre false (-1)) = numGo l pre false (-1) := by rw [numGo, if_neg (by rw [hL]; decide), if_neg hc]; rfl
          rw [e1, e2, hb] at ih
          rw [if_pos rfl]
          exact ih
        | false =>
          have hc : askedL l x.arg = true ∧ besGo l pre false = false := ⟨hA, hb⟩
          have e1 : besGo l [x] (besGo l pre false) = true := by rw [besGo, if_neg (by rw [hL]; decide), if_pos hc]; rfl
          have e2 : numGo l [x] (besGo l pre false) (numGo l pre false (-1)) = numGo l pre false (-1) + 1 := by rw [numGo, if_neg (by rw [hL]; decide), if_pos hc]; rfl
          rw [e1, e2] at ih
          rw [hb] at q
          have ha : askI (RL l) (ixN pre) = true := by
            have h1 : besGo l (pre ++ [x]) false = true := by rw [besGo_app]; exact e1
            have h2 := bes_ask h e' h1
            rwa [ixN_app, e3, Nat.add_zero] at h2
          rw [if_neg (by decide), bld_lab _ ha, ← ih]
          show f ⟨38, numGo l pre false (-1) + 1⟩ :: List.map f _ = _
          rw [hg ⟨38, _⟩ (by simp [isJ])]
          have q2 : numGo l pre false (-1) + 1 = (rankI (RL l) (ixN pre) : Int) := by simpa using q
          rw [q2]
/-- A list's normal form is built of its instructions. -/
theorem norm_build {l : List IN} (h : OnceL l) : normP l = buildN (RL l) := by
  have hs := scan_all l
  unfold normP
  have h1 := scan_build h (setJ (scanP l l false 0).2) (fun x hx hj => by
    unfold setJ
    rw [if_pos hj, hs]
    show (⟨x.op, lastN (pairsR l l 0) x.arg 0⟩ : IN) = _
    rw [pairs_rank h hx hj]) (fun x hj => by
    unfold setJ
    rw [if_neg (by rw [hj]; decide)]) l [] rfl
  exact h1
end Go.Proofs.YtbcpopakdlplgaaDoor
namespace Go.Proofs.YtbcpopakdlplgaaDoor
set_option linter.unusedVariables false
set_option linter.unusedSimpArgs false

/-- All instructions of bytes, with their widths; or the first error. -/
def decAll : Nat → List UInt8 → Int ⊕ List (IN × Nat)
  | _, [] => .inr []
  | 0, _ :: _ => .inl 2
  | f + 1, c :: t => match decI (c :: t) with
    | .inl e => .inl e
    | .inr (x, k) => match decAll f ((c :: t).drop k) with
      | .inl e => .inl e
      | .inr r => .inr ((x, k) :: r)
/-- Where an instruction begins. -/
def bpos : List (IN × Nat) → Nat → Nat
  | _, 0 => 0
  | [], _ + 1 => 0
  | p :: t, j + 1 => p.2 + bpos t j
/-- Where a place lies; none: no instruction begins there. -/
def findB (ps : List (IN × Nat)) (tgt : Int) : Option Nat := (List.range (ps.length + 1)).find? fun r => (bpos ps r : Int) == tgt
/-- Jumps' places; none: one leads to where nothing begins. -/
def resD (ps : List (IN × Nat)) : List (IN × Nat) → Nat → Option (List IN)
  | [], _ => some []
  | p :: t, j => match (if isJ p.1 = true then (findB ps ((bpos ps (j + 1) : Int) + p.1.arg)).map fun r => (⟨p.1.op, r⟩ : IN) else some p.1), resD ps t (j + 1) with
    | some x, some r => some (x :: r)
    | _, _ => none
/-- What Disassemble answers. -/
def disP (b : List UInt8) : Int ⊕ List IN := match decAll b.length b with
  | .inl e => .inl e
  | .inr ps => match resD ps ps 0 with
    | some rs => .inr (buildN rs)
    | none => .inl 5
/-- An instruction of a list that is right. -/
def InsOk (x : IN) : Prop := isL x = true ∨ isJ x = true ∨ (opOk x.op ∧ (-32768 ≤ x.arg ∧ x.arg ≤ 32767) ∧ (hasA x.op = false → x.arg = 0))
section
variable (F : Nat → Int) (S : Nat → Nat)
/-- An instruction's bytes: F are the jumps' distances, S their sizes. -/
def itemB (i : Nat) (x : IN) : List UInt8 := if isJ x = true then encS x.op (F i) (S i) else encI x
def codeGo : List IN → Nat → List UInt8
  | [], _ => []
  | x :: t, i => itemB F S i x ++ codeGo t (i + 1)
def itemN (i : Nat) (x : IN) : IN × Nat := if isJ x = true then (⟨x.op, F i⟩, 1 + S i) else (x, (encI x).length)
def itemsGo : List IN → Nat → List (IN × Nat)
  | [], _ => []
  | x :: t, i => if isL x = true then itemsGo t (i + 1) else itemN F S i x :: itemsGo t (i + 1)
theorem argI_ok {x : IN} (h2 : -32768 ≤ x.arg ∧ x.arg ≤ 32767) (h3 : hasA x.op = false → x.arg = 0) : argI x = x.arg := by
  unfold argI
  split
  · exact wrap16_id h2
  · rename_i h; rw [h3 (by simpa using h)]
theorem encI_label {x : IN} (h : isL x = true) : encI x = [] := by
  unfold isL at h
  have : x.op = 38 := by simpa using h
  unfold encI
  rw [if_pos (.inr (by omega))]
theorem encI_ok {x : IN} (h1 : opOk x.op) : encI x = encS x.op (argI x) (needN (argI x)) := by
  unfold encI
  unfold opOk at h1
  rw [if_neg (by omega)]
theorem isJ_op {x : IN} (h : isJ x = true) : opOk x.op ∧ hasA x.op = true := by
  unfold isJ at h
  simp only [Bool.or_eq_true, beq_iff_eq] at h
  rcases h with h | h <;> rw [h] <;> exact ⟨by unfold opOk; omega, by decide⟩
/-- One instruction is read back. -/
theorem dec_item {x : IN} {i : Nat} (hx : InsOk x) (hL : isL x = false) (hJ : isJ x = true → S i ≤ 2 ∧ needN (F i) ≤ S i ∧ (-32768 ≤ F i ∧ F i ≤ 32767)) (rest : List UInt8) :
    decI (itemB F S i x ++ rest) = .inr (itemN F S i x) ∧ (itemB F S i x).length = (itemN F S i x).2 ∧ 1 ≤ (itemN F S i x).2 := by
  unfold itemB itemN
  by_cases hj : isJ x = true
  · obtain ⟨h1, h2, h3⟩ := hJ hj
    obtain ⟨h4, h5⟩ := isJ_op hj
    rw [if_pos hj, if_pos hj]
    exact ⟨dec_enc x.op (F i) (S i) rest h4 h1 h2 h3 (fun _ => h5) (.inr (by unfold isJ at hj; simpa using hj)), encS_len _ _ _ h1, by show 1 ≤ 1 + S i; omega⟩
  · rcases hx with h | h | ⟨h1, h2, h3⟩
    · rw [hL] at h; cases h
    · exact absurd h hj
    · rw [if_neg hj, if_neg hj]
      have e := argI_ok h2 h3
      have hn := needN_le x.arg
      rw [encI_ok h1, e]
      have hl := encS_len x.op x.arg (needN x.arg) hn
      refine ⟨?_, ?_, ?_⟩
      · rw [dec_enc x.op x.arg (needN x.arg) rest h1 hn (Nat.le_refl _) h2 (fun h0 => ?_) (.inl rfl), hl]
        cases hh : hasA x.op with
        | true => rfl
        | false => rw [h3 hh] at h0; exact absurd h0 (by decide)
      · rfl
      · show 1 ≤ (encS x.op x.arg (needN x.arg)).length; rw [hl]; omega
theorem dec_code : ∀ (l : List IN) (i f : Nat), (∀ x ∈ l, InsOk x) → (∀ j (h : j < l.length), isJ l[j] = true → S (i + j) ≤ 2 ∧ needN (F (i + j)) ≤ S (i + j) ∧ (-32768 ≤ F (i + j) ∧ F (i + j) ≤ 32767)) →
    (codeGo F S l i).length ≤ f → decAll f (codeGo F S l i) = .inr (itemsGo F S l i)
  | [], i, f, _, _, _ => by
    show decAll f [] = .inr []
    cases f <;> rfl
  | x :: t, i, f, hx, hJ, hf => by
    have hJ' : ∀ j (h : j < t.length), isJ t[j] = true → S (i + 1 + j) ≤ 2 ∧ needN (F (i + 1 + j)) ≤ S (i + 1 + j) ∧ (-32768 ≤ F (i + 1 + j) ∧ F (i + 1 + j) ≤ 32767) := fun j h hj => by
      have := hJ (j + 1) (by simpa using h) (by simpa using hj)
      rwa [show i + (j + 1) = i + 1 + j by omega] at this
    have hx' := fun y hy => hx y (List.mem_cons_of_mem _ hy)
    rw [codeGo] at hf ⊢
    rw [itemsGo]
    by_cases hL : isL x = true
    · have e : itemB F S i x = [] := by
        unfold itemB
        rw [if_neg (fun hj => by rw [isJ_L hj] at hL; cases hL), encI_label hL]
      rw [e, List.nil_append] at hf ⊢
      rw [if_pos hL]
      exact dec_code t (i + 1) f hx' hJ' hf
    · have hL' : isL x = false := by simpa using hL
      obtain ⟨h1, h2, h3⟩ := dec_item F S (hx x (List.mem_cons_self ..)) hL' (fun hj => by have := hJ 0 (by simp) (by simpa using hj); simpa using this) (codeGo F S t (i + 1))
      rw [List.length_append] at hf
      have ih := fun f hf => dec_code t (i + 1) f hx' hJ' hf
      rw [if_neg hL]
      have hd : (itemB F S i x ++ codeGo F S t (i + 1)).drop (itemN F S i x).2 = codeGo F S t (i + 1) := by rw [← h2, List.drop_left]
      generalize hb : itemB F S i x ++ codeGo F S t (i + 1) = b at h1 hd
      cases b with
      | nil =>
        have := congrArg List.length hb
        rw [List.length_append, List.length_nil] at this
        omega
      | cons c u =>
        cases f with
        | zero => omega
        | succ f =>
          rw [decAll, h1]
          show (match decAll f ((c :: u).drop (itemN F S i x).2) with | .inl e => _ | .inr r => _) = _
          rw [hd, ih f (by omega)]
          rfl
end
end Go.Proofs.YtbcpopakdlplgaaDoor
namespace Go.Proofs.YtbcpopakdlplgaaDoor
set_option linter.unusedVariables false
set_option linter.unusedSimpArgs false

/-- An instruction's width, as it stands at its place. -/
def wI (S : Nat → Nat) (i : Nat) (x : IN) : Nat := if isJ x = true then 1 + S i else (encI x).length
theorem itemsGo_app (F : Nat → Int) (S : Nat → Nat) : ∀ (a b : List IN) (i : Nat), itemsGo F S (a ++ b) i = itemsGo F S a i ++ itemsGo F S b (i + a.length)
  | [], b, i => by simp [itemsGo]
  | x :: t, b, i => by
    have ih := itemsGo_app F S t b (i + 1)
    rw [List.cons_append, itemsGo, itemsGo, ih, List.length_cons, show i + 1 + t.length = i + (t.length + 1) by omega]
    split
    · rfl
    · rfl
theorem itemsGo_len (F : Nat → Int) (S : Nat → Nat) : ∀ (a : List IN) (i : Nat), (itemsGo F S a i).length = ixN a
  | [], _ => rfl
  | x :: t, i => by
    have ih := itemsGo_len F S t (i + 1)
    rw [itemsGo, ixN]
    split
    · omega
    · rw [List.length_cons]; omega
theorem bpos_app : ∀ (a b : List (IN × Nat)), bpos (a ++ b) a.length = bpos a a.length
  | [], b => by cases b <;> rfl
  | p :: t, b => by
    have := bpos_app t b
    rw [List.cons_append, List.length_cons, bpos, bpos, this]
theorem itemN_w (F : Nat → Int) (S : Nat → Nat) (i : Nat) (x : IN) : (itemN F S i x).2 = wI S i x := by
  unfold itemN wI
  split <;> rfl
theorem wI_L (S : Nat → Nat) (i : Nat) {x : IN} (h : isL x = true) : wI S i x = 0 := by
  unfold wI
  rw [if_neg (fun hj => by rw [isJ_L hj] at h; cases h), encI_label h]; rfl
theorem bpos_sum (F : Nat → Int) (S : Nat → Nat) (w : Nat → Nat) : ∀ (b : List IN) (i : Nat), (∀ j (h : j < b.length), w (i + j) = wI S (i + j) b[j]) → bpos (itemsGo F S b i) (ixN b) + posN w i = posN w (i + b.length)
  | [], i, _ => by
    show bpos [] 0 + posN w i = posN w i
    rw [bpos]; omega
  | x :: t, i, h => by
    have ih := bpos_sum F S w t (i + 1) (fun j hj => by
      have := h (j + 1) (by simpa using hj)
      rw [show i + 1 + j = i + (j + 1) by omega, this]; rfl)
    have h0 : w i = wI S i x := h 0 (by simp)
    rw [itemsGo, ixN, List.length_cons, show i + (t.length + 1) = i + 1 + t.length by omega, ← ih, posN, h0]
    split
    · rename_i hL
      rw [wI_L S i hL, Nat.zero_add]; omega
    · rw [Nat.add_comm 1 (ixN t), bpos, itemN_w]; omega
/-- The list's widths by place. -/
def WI (S : Nat → Nat) (l : List IN) (i : Nat) : Nat := wI S i (l.getD i ⟨38, 0⟩)
theorem WI_at (S : Nat → Nat) (l : List IN) (i : Nat) (h : i < l.length) : WI S l i = wI S i l[i] := by
  unfold WI
  rw [List.getD_eq_getElem?_getD, List.getElem?_eq_getElem h]; rfl
/-- Where a place's instruction begins. -/
theorem bpos_place (F : Nat → Int) (S : Nat → Nat) {l pre suf : List IN} (e : l = pre ++ suf) : bpos (itemsGo F S l 0) (ixN pre) = posN (WI S l) pre.length := by
  have h1 := bpos_sum F S (WI S l) pre 0 (fun j h => by
    have hl : j < l.length := by rw [e, List.length_append]; omega
    rw [Nat.zero_add, WI_at S l j hl]
    congr 1
    have : l[j]? = pre[j]? := by rw [e, List.getElem?_append_left h]
    rw [List.getElem?_eq_getElem hl, List.getElem?_eq_getElem h] at this
    exact Option.some.inj this)
  rw [Nat.zero_add] at h1
  have h2 : bpos (itemsGo F S l 0) (ixN pre) = bpos (itemsGo F S pre 0) (ixN pre) := by
    have := bpos_app (itemsGo F S pre 0) (itemsGo F S suf (0 + pre.length))
    rw [← itemsGo_app, ← e, itemsGo_len] at this
    exact this
  rw [h2, ← h1]
  show _ = _ + 0
  omega
/-- Places rise. -/
theorem bpos_lt : ∀ (ps : List (IN × Nat)) (r r' : Nat), (∀ p ∈ ps, 1 ≤ p.2) → r < r' → r' ≤ ps.length → bpos ps r < bpos ps r'
  | [], r, r', _, h1, h2 => by simp at h2; omega
  | p :: t, r, 0, _, h1, h2 => by omega
  | p :: t, 0, r' + 1, h, h1, h2 => by
    have := h p (List.mem_cons_self ..)
    rw [bpos, bpos]; omega
  | p :: t, r + 1, r' + 1, h, h1, h2 => by
    have := bpos_lt t r r' (fun q hq => h q (List.mem_cons_of_mem _ hq)) (by omega) (by simpa using h2)
    rw [bpos, bpos]; omega
theorem findB_at (ps : List (IN × Nat)) (r : Nat) (h : ∀ p ∈ ps, 1 ≤ p.2) (hr : r ≤ ps.length) : findB ps (bpos ps r) = some r := by
  unfold findB
  rw [List.find?_range_eq_some]
  refine ⟨by simp, by simpa using by omega, fun j hj => ?_⟩
  have := bpos_lt ps j r h hj hr
  simp
  omega
theorem items_one (F : Nat → Int) (S : Nat → Nat) : ∀ (l : List IN) (i : Nat), (∀ x ∈ l, InsOk x) → ∀ p ∈ itemsGo F S l i, 1 ≤ p.2
  | [], _, _, p, hp => by cases hp
  | x :: t, i, h, p, hp => by
    have ih := items_one F S t (i + 1) (fun y hy => h y (List.mem_cons_of_mem _ hy))
    rw [itemsGo] at hp
    split at hp
    · exact ih p hp
    · rename_i hL
      rcases List.mem_cons.1 hp with rfl | hp
      · rw [itemN_w]
        unfold wI
        split
        · omega
        · rename_i hj
          rcases h x (List.mem_cons_self ..) with h1 | h1 | h1
          · exact absurd h1 hL
          · exact absurd h1 hj
          · rw [encI_ok h1.1, encS_len _ _ _ (needN_le _)]; omega
      · exact ih p hp
theorem res_items (F : Nat → Int) (S : Nat → Nat) {l : List IN} (h : OnceL l) (hx : ∀ x ∈ l, InsOk x)
    (hF : ∀ pre x suf p u t, l = pre ++ x :: suf → isJ x = true → l = p ++ u :: t → isL u = true → u.arg = x.arg → F pre.length = (posN (WI S l) p.length : Int) - posN (WI S l) (pre.length + 1)) :
    ∀ (suf pre : List IN), l = pre ++ suf → resD (itemsGo F S l 0) (itemsGo F S suf pre.length) (ixN pre) = some ((suf.filter fun x => !isL x).map (resL l))
  | [], pre, e => rfl
  | x :: t, pre, e => by
    have e' : l = (pre ++ [x]) ++ t := by rw [e]; simp
    have ih := res_items F S h hx hF t (pre ++ [x]) e'
    rw [ixN_app, List.length_append, List.length_singleton] at ih
    rw [itemsGo]
    cases hL : isL x with
    | true =>
      rw [if_pos rfl, List.filter_cons_of_neg (by rw [hL]; decide)]
      have e3 : ixN [x] = 0 := by rw [ixN, if_pos hL]; rfl
      rw [e3, Nat.add_zero] at ih
      exact ih
    | false =>
      rw [if_neg (by decide), List.filter_cons_of_pos (by rw [hL]; rfl), List.map_cons]
      have e3 : ixN [x] = 1 := by rw [ixN, if_neg (by rw [hL]; decide)]; rfl
      rw [e3] at ih
      rw [resD, ih]
      have key : (if isJ (itemN F S pre.length x).1 = true then (findB (itemsGo F S l 0) ((bpos (itemsGo F S l 0) (ixN pre + 1) : Int) + (itemN F S pre.length x).1.arg)).map fun r => (⟨(itemN F S pre.length x).1.op, r⟩ : IN) else some (itemN F S pre.length x).1) = some (resL l x) := by
        unfold itemN resL
        by_cases hj : isJ x = true
        · rw [if_pos hj]
          show (if isJ x = true then (findB (itemsGo F S l 0) ((bpos (itemsGo F S l 0) (ixN pre + 1) : Int) + F pre.length)).map fun r => (⟨x.op, r⟩ : IN) else _) = _
          rw [if_pos hj, if_pos hj]
          obtain ⟨u, hu, huL, hua⟩ := h.2 x (by rw [e]; simp) hj
          obtain ⟨p, s, e2⟩ := List.append_of_mem hu
          have h1 := bpos_place F S e'
          rw [ixN_app, e3, List.length_append, List.length_singleton] at h1
          have h2 := bpos_place F S e2
          rw [h1, hF pre x t p u s e hj e2 huL hua]
          have e4 : ((posN (WI S l) (pre.length + 1) : Int) + ((posN (WI S l) p.length : Int) - posN (WI S l) (pre.length + 1))) = (bpos (itemsGo F S l 0) (ixN p) : Int) := by rw [h2]; omega
          rw [e4, findB_at _ _ (items_one F S l 0 hx) (by rw [itemsGo_len, e2, ixN_app]; omega), ← hua, once_idx h e2 huL]
          rfl
        · rw [if_neg hj]
          show (if isJ x = true then _ else some x) = _
          rw [if_neg hj, if_neg hj]
      rw [key]
/-- Back: what was assembled is the list in its normal form. -/
theorem dis_code (F : Nat → Int) (S : Nat → Nat) {l : List IN} (h : OnceL l) (hx : ∀ x ∈ l, InsOk x)
    (hJ : ∀ j (hj : j < l.length), isJ l[j] = true → S j ≤ 2 ∧ needN (F j) ≤ S j ∧ (-32768 ≤ F j ∧ F j ≤ 32767))
    (hF : ∀ pre x suf p u t, l = pre ++ x :: suf → isJ x = true → l = p ++ u :: t → isL u = true → u.arg = x.arg → F pre.length = (posN (WI S l) p.length : Int) - posN (WI S l) (pre.length + 1)) :
    disP (codeGo F S l 0) = .inr (normP l) := by
  unfold disP
  rw [dec_code F S l 0 _ hx (fun j hj h => by rw [Nat.zero_add]; exact hJ j hj h) (Nat.le_refl _)]
  have h1 := res_items F S h hx hF l [] rfl
  have h2 : resD (itemsGo F S l 0) (itemsGo F S l 0) 0 = some (RL l) := h1
  rw [norm_build h]
  simp only [h2]
end Go.Proofs.YtbcpopakdlplgaaDoor
namespace Go.Proofs.YtbcpopakdlplgaaDoor
set_option linter.unusedVariables false
set_option linter.unusedSimpArgs false

/-- Instructions with labels where jumps lead; f numbers them. -/
def labGo (rs : List IN) (f : Nat → Int) : List IN → Nat → List IN
  | [], i => if askI rs i = true then [⟨38, f i⟩] else []
  | x :: t, i => (if askI rs i = true then [⟨38, f i⟩] else []) ++ (if isJ x = true then ⟨x.op, f x.arg.toNat⟩ else x) :: labGo rs f t (i + 1)
/-- Instructions no one of which is a label, and whose jumps lead to a place. -/
def RsOk (rs : List IN) : Prop := ∀ x ∈ rs, isL x = false ∧ (isJ x = true → 0 ≤ x.arg ∧ x.arg ≤ rs.length)
def InjA (rs : List IN) (f : Nat → Int) : Prop := ∀ a b, askI rs a = true → askI rs b = true → f a = f b → a = b
theorem build_lab (rs : List IN) : ∀ (t : List IN) (i : Nat), bldGo rs t i false = labGo rs (fun i => (rankI rs i : Int)) t i
  | [], i => by rw [bldGo, labGo]; simp
  | x :: t, i => by
    rw [bldGo, labGo, build_lab rs t (i + 1)]
    simp
theorem rank_up (rs : List IN) (a : Nat) : ∀ b, a ≤ b → rankI rs a ≤ rankI rs b
  | 0, h => by have : a = 0 := by omega
               subst this; exact Nat.le_refl _
  | b + 1, h => by
    by_cases e : a = b + 1
    · subst e; exact Nat.le_refl _
    · have := rank_up rs a b (by omega)
      rw [rankI]; omega
theorem rank_inj (rs : List IN) : InjA rs (fun i => (rankI rs i : Int)) := by
  have key : ∀ a b, askI rs a = true → a < b → rankI rs a < rankI rs b := fun a b ha hab => by
    have := rank_up rs (a + 1) b hab
    rw [rankI, if_pos ha] at this
    omega
  intro a b ha hb e
  have e' : (rankI rs a : Int) = rankI rs b := e
  rcases Nat.lt_trichotomy a b with h | h | h
  · have := key a b ha h; omega
  · exact h
  · have := key b a hb h; omega
theorem id_inj (rs : List IN) : InjA rs (fun i => (i : Int)) := fun a b _ _ e => by
  have e' : (a : Int) = b := e
  omega
theorem isJ_of (x : IN) (n : Int) : isJ ⟨x.op, n⟩ = isJ x := rfl
theorem lab_item_L {rs : List IN} {f : Nat → Int} {x : IN} (h : isL x = false) : isL (if isJ x = true then ⟨x.op, f x.arg.toNat⟩ else x) = false := by
  split
  · exact h
  · exact h
theorem idx_lab {rs : List IN} {f : Nat → Int} (hf : InjA rs f) {a : Nat} (ha : askI rs a = true) : ∀ (t : List IN) (i : Nat), (∀ x ∈ t, isL x = false) → i ≤ a → a ≤ i + t.length → idxOf (f a) (labGo rs f t i) i = a
  | [], i, _, h1, h2 => by
    have e : i = a := by simp at h2; omega
    subst e
    rw [labGo, if_pos ha, idxOf, if_pos ⟨isL_38 _, rfl⟩]
  | x :: t, i, hx, h1, h2 => by
    rw [labGo]
    by_cases e : i = a
    · subst e
      rw [if_pos ha]
      show idxOf _ (⟨38, f i⟩ :: _) i = i
      rw [idxOf, if_pos ⟨isL_38 _, rfl⟩]
    · have hxL := lab_item_L (rs := rs) (f := f) (hx x (List.mem_cons_self ..))
      have ih := idx_lab hf ha t (i + 1) (fun y hy => hx y (List.mem_cons_of_mem _ hy)) (by omega) (by simp at h2; omega)
      have key : ∀ (z : IN) (r : List IN), isL z = false → idxOf (f a) (z :: r) i = idxOf (f a) r (i + 1) := fun z r hz => by
        rw [idxOf, if_neg (by rw [hz]; simp), if_neg (by rw [hz]; decide)]
      split
      · rename_i hi
        show idxOf _ (⟨38, f i⟩ :: _) i = a
        rw [idxOf, if_neg (fun h => e (hf i a hi ha h.2)), if_pos (isL_38 _)]
        refine (key _ _ hxL).trans ih
      · rw [List.nil_append, key _ _ hxL, ih]
theorem filter_lab (rs : List IN) (f : Nat → Int) : ∀ (t : List IN) (i : Nat), (∀ x ∈ t, isL x = false) → (labGo rs f t i).filter (fun x => !isL x) = t.map fun x => if isJ x = true then ⟨x.op, f x.arg.toNat⟩ else x
  | [], i, _ => by
    rw [labGo]
    split
    · rw [List.filter_cons_of_neg (by rw [isL_38]; decide)]; rfl
    · rfl
  | x :: t, i, hx => by
    have hxL := lab_item_L (rs := rs) (f := f) (hx x (List.mem_cons_self ..))
    have ih := filter_lab rs f t (i + 1) (fun y hy => hx y (List.mem_cons_of_mem _ hy))
    rw [labGo, List.filter_append, List.filter_cons_of_pos (by rw [hxL]; rfl), ih, List.map_cons]
    split
    · rw [List.filter_cons_of_neg (by rw [isL_38]; decide)]; rfl
    · rfl
theorem ask_jump {rs : List IN} (h : RsOk rs) {x : IN} (hx : x ∈ rs) (hj : isJ x = true) : askI rs x.arg.toNat = true := by
  have h1 := (h x hx).2 hj
  refine List.any_eq_true.2 ⟨x, hx, ?_⟩
  rw [hj]
  simp
  omega
/-- The instructions are what it was built of. -/
theorem RL_lab {rs : List IN} (h : RsOk rs) {f : Nat → Int} (hf : InjA rs f) : RL (labGo rs f rs 0) = rs := by
  unfold RL
  rw [filter_lab rs f rs 0 (fun x hx => (h x hx).1), List.map_map]
  conv => rhs; rw [← List.map_id rs]
  refine List.map_congr_left (fun x hx => ?_)
  show resL _ (if isJ x = true then (⟨x.op, f x.arg.toNat⟩ : IN) else x) = x
  by_cases hj : isJ x = true
  · have h1 := (h x hx).2 hj
    rw [if_pos hj]
    unfold resL
    rw [isJ_of, if_pos hj]
    show (⟨x.op, (idxOf (f x.arg.toNat) (labGo rs f rs 0) 0 : Int)⟩ : IN) = x
    rw [idx_lab hf (ask_jump h hx hj) rs 0 (fun y hy => (h y hy).1) (Nat.zero_le _) (by omega)]
    have e : (x.arg.toNat : Int) = x.arg := by omega
    rw [e]
  · rw [if_neg hj]
    unfold resL
    rw [if_neg hj]
/-- Labels stand once. -/
def OnceU (l : List IN) : Prop := ∀ i j (hi : i < l.length) (hj : j < l.length), isL l[i] = true → isL l[j] = true → l[i].arg = l[j].arg → i = j
theorem onceU_cons {x : IN} {t : List IN} (h1 : isL x = true → ∀ y ∈ t, isL y = true → y.arg ≠ x.arg) (h2 : OnceU t) : OnceU (x :: t) := by
  intro i j hi hj a b e
  match i, j, hi, hj with
  | 0, 0, _, _ => rfl
  | 0, j + 1, hi, hj =>
    have hj' : j < t.length := by simpa using hj
    exact absurd (show t[j].arg = x.arg from e.symm) (h1 a _ (List.getElem_mem hj') b)
  | i + 1, 0, hi, hj =>
    have hi' : i < t.length := by simpa using hi
    exact absurd (show t[i].arg = x.arg from e) (h1 b _ (List.getElem_mem hi') a)
  | i + 1, j + 1, hi, hj =>
    have := h2 i j (by simpa using hi) (by simpa using hj) a b e
    omega
theorem lab_labels {rs : List IN} {f : Nat → Int} : ∀ (t : List IN) (i : Nat), (∀ x ∈ t, isL x = false) → ∀ y ∈ labGo rs f t i, isL y = true → ∃ k, i ≤ k ∧ askI rs k = true ∧ y.arg = f k
  | [], i, _, y, hy, hL => by
    rw [labGo] at hy
    split at hy
    · rename_i ha
      have : y = ⟨38, f i⟩ := by simpa using hy
      exact ⟨i, Nat.le_refl _, ha, by rw [this]⟩
    · cases hy
  | x :: t, i, hx, y, hy, hL => by
    have ih := lab_labels (rs := rs) (f := f) t (i + 1) (fun y hy => hx y (List.mem_cons_of_mem _ hy)) y
    rw [labGo] at hy
    rcases List.mem_append.1 hy with hy | hy
    · split at hy
      · rename_i ha
        have : y = ⟨38, f i⟩ := by simpa using hy
        exact ⟨i, Nat.le_refl _, ha, by rw [this]⟩
      · cases hy
    · rcases List.mem_cons.1 hy with e | hy
      · rw [e, lab_item_L (rs := rs) (hx x (List.mem_cons_self ..))] at hL; cases hL
      · obtain ⟨k, h1, h2⟩ := ih hy hL
        exact ⟨k, by omega, h2⟩
theorem onceU_lab {rs : List IN} {f : Nat → Int} (hf : InjA rs f) : ∀ (t : List IN) (i : Nat), (∀ x ∈ t, isL x = false) → OnceU (labGo rs f t i)
  | [], i, _ => by
    rw [labGo]
    split
    · exact onceU_cons (fun _ y hy => by cases hy) (fun i j hi => by simp at hi)
    · exact fun i j hi => by simp at hi
  | x :: t, i, hx => by
    have ht := fun y hy => hx y (List.mem_cons_of_mem _ hy)
    have ih := onceU_lab hf t (i + 1) ht
    have hxL := lab_item_L (rs := rs) (f := f) (hx x (List.mem_cons_self ..))
    have h2 : OnceU ((if isJ x = true then (⟨x.op, f x.arg.toNat⟩ : IN) else x) :: labGo rs f t (i + 1)) := onceU_cons (fun h => by rw [hxL] at h; cases h) ih
    rw [labGo]
    split
    · rename_i ha
      refine onceU_cons (fun _ y hy hL e => ?_) h2
      rcases List.mem_cons.1 hy with e2 | hy
      · rw [e2, hxL] at hL; cases hL
      · obtain ⟨k, h1, h3, h4⟩ := lab_labels t (i + 1) ht y hy hL
        have e3 : f k = f i := by rw [← h4]; exact e
        have := hf k i h3 ha e3
        omega
    · exact h2
theorem lab_has {rs : List IN} {f : Nat → Int} {a : Nat} (ha : askI rs a = true) : ∀ (t : List IN) (i : Nat), i ≤ a → a ≤ i + t.length → (⟨38, f a⟩ : IN) ∈ labGo rs f t i
  | [], i, h1, h2 => by
    have e : i = a := by simp at h2; omega
    subst e
    rw [labGo, if_pos ha]
    exact List.mem_cons_self ..
  | x :: t, i, h1, h2 => by
    rw [labGo]
    by_cases e : i = a
    · subst e
      rw [if_pos ha]
      exact List.mem_cons_self ..
    · exact List.mem_append_right _ (List.mem_cons_of_mem _ (lab_has ha t (i + 1) (by omega) (by simp at h2; omega)))
theorem lab_jumps {rs : List IN} {f : Nat → Int} : ∀ (t : List IN) (i : Nat), ∀ y ∈ labGo rs f t i, isJ y = true → ∃ x ∈ t, isJ x = true ∧ y = ⟨x.op, f x.arg.toNat⟩
  | [], i, y, hy, hj => by
    rw [labGo] at hy
    split at hy
    · have : y = ⟨38, f i⟩ := by simpa using hy
      rw [this] at hj; simp [isJ] at hj
    · cases hy
  | x :: t, i, y, hy, hj => by
    rw [labGo] at hy
    rcases List.mem_append.1 hy with hy | hy
    · split at hy
      · have : y = ⟨38, f i⟩ := by simpa using hy
        rw [this] at hj; simp [isJ] at hj
      · cases hy
    · rcases List.mem_cons.1 hy with e | hy
      · by_cases hx : isJ x = true
        · rw [if_pos hx] at e
          exact ⟨x, List.mem_cons_self .., hx, e⟩
        · rw [if_neg hx] at e
          rw [e] at hj
          exact absurd hj hx
      · obtain ⟨z, hz, h1⟩ := lab_jumps t (i + 1) y hy hj
        exact ⟨z, List.mem_cons_of_mem _ hz, h1⟩
theorem once_lab {rs : List IN} (h : RsOk rs) {f : Nat → Int} (hf : InjA rs f) : OnceL (labGo rs f rs 0) := by
  refine ⟨onceU_lab hf rs 0 (fun x hx => (h x hx).1), fun y hy hj => ?_⟩
  obtain ⟨x, hx, hxj, rfl⟩ := lab_jumps rs 0 y hy hj
  have h1 := (h x hx).2 hxj
  exact ⟨⟨38, f x.arg.toNat⟩, lab_has (ask_jump h hx hxj) rs 0 (Nat.zero_le _) (by omega), isL_38 _, rfl⟩
/-- Whatever the numbers: the normal form is the built one. -/
theorem norm_lab {rs : List IN} (h : RsOk rs) {f : Nat → Int} (hf : InjA rs f) : normP (labGo rs f rs 0) = buildN rs := by
  rw [norm_build (once_lab h hf), RL_lab h hf]
theorem once_build {rs : List IN} (h : RsOk rs) : OnceL (buildN rs) := by
  have := once_lab h (rank_inj rs)
  unfold buildN
  rw [build_lab]
  exact this
theorem RL_build {rs : List IN} (h : RsOk rs) : RL (buildN rs) = rs := by
  have := RL_lab h (rank_inj rs)
  unfold buildN
  rw [build_lab]
  exact this
theorem norm_of_build {rs : List IN} (h : RsOk rs) : normP (buildN rs) = buildN rs := by
  rw [norm_build (once_build h), RL_build h]
end Go.Proofs.YtbcpopakdlplgaaDoor
namespace Go.Proofs.YtbcpopakdlplgaaDoor
set_option linter.unusedVariables false
set_option linter.unusedSimpArgs false

/-- An instruction that was read, with its width. -/
def ItemOk (p : IN × Nat) : Prop := opOk p.1.op ∧ (-32768 ≤ p.1.arg ∧ p.1.arg ≤ 32767) ∧ 1 + needN p.1.arg ≤ p.2 ∧ (p.1.arg ≠ 0 → hasA p.1.op = true)
theorem decAll_ok : ∀ (f : Nat) (b : List UInt8) (ps : List (IN × Nat)), decAll f b = .inr ps → (∀ p ∈ ps, ItemOk p) ∧ bpos ps ps.length = b.length
  | f, [], ps, h => by
    have e : ps = [] := by
      cases f with
      | zero => exact (Sum.inr.inj h).symm
      | succ f => exact (Sum.inr.inj h).symm
    subst e
    exact ⟨fun p hp => (by cases hp), rfl⟩
  | 0, c :: t, ps, h => by cases h
  | f + 1, c :: t, ps, h => by
    rw [decAll] at h
    cases hd : decI (c :: t) with
    | inl e => rw [hd] at h; cases h
    | inr q =>
      obtain ⟨x, k⟩ := q
      rw [hd] at h
      simp only at h
      cases hr : decAll f ((c :: t).drop k) with
      | inl e => rw [hr] at h; cases h
      | inr r =>
        rw [hr] at h
        have e : (x, k) :: r = ps := Sum.inr.inj h
        subst e
        have ih := decAll_ok f _ r hr
        obtain ⟨h1, h2, h3, h4, h5, h6, h7⟩ := dec_ok hd
        refine ⟨fun p hp => ?_, ?_⟩
        · rcases List.mem_cons.1 hp with rfl | hp
          · exact ⟨h1, h2, h6, h7⟩
          · exact ih.1 p hp
        · have := ih.2
          rw [List.length_drop] at this
          rw [List.length_cons, bpos, this]
          show k + _ = _
          omega
/-- What an instruction's place means. -/
def ResAt (ps : List (IN × Nat)) (j : Nat) (p : IN × Nat) (x : IN) : Prop := if isJ p.1 = true then ∃ r : Nat, r ≤ ps.length ∧ x = ⟨p.1.op, r⟩ ∧ (bpos ps r : Int) = (bpos ps (j + 1) : Int) + p.1.arg else x = p.1
theorem findB_ok {ps : List (IN × Nat)} {tgt : Int} {r : Nat} (h : findB ps tgt = some r) : r ≤ ps.length ∧ (bpos ps r : Int) = tgt := by
  unfold findB at h
  rw [List.find?_range_eq_some] at h
  obtain ⟨h1, h2, _⟩ := h
  refine ⟨?_, by simpa using h1⟩
  have := List.mem_range.1 h2
  omega
theorem resD_ok (ps : List (IN × Nat)) : ∀ (t : List (IN × Nat)) (j : Nat) (rs : List IN), resD ps t j = some rs → rs.length = t.length ∧ ∀ k (h1 : k < t.length) (h2 : k < rs.length), ResAt ps (j + k) t[k] rs[k]
  | [], j, rs, h => by
    have e : rs = [] := (Option.some.inj h).symm
    subst e
    exact ⟨rfl, fun k h => by simp at h⟩
  | p :: t, j, rs, h => by
    rw [resD] at h
    split at h
    · rename_i x r hx hr
      have e : x :: r = rs := Option.some.inj h
      subst e
      have ih := resD_ok ps t (j + 1) r hr
      refine ⟨by rw [List.length_cons, List.length_cons, ih.1], fun k h1 h2 => ?_⟩
      cases k with
      | zero =>
        show ResAt ps j p x
        unfold ResAt
        split at hx
        · rename_i hj
          rw [if_pos hj]
          cases hb : findB ps ((bpos ps (j + 1) : Int) + p.1.arg) with
          | none => rw [hb] at hx; cases hx
          | some r =>
            rw [hb] at hx
            have e : (⟨p.1.op, r⟩ : IN) = x := Option.some.inj hx
            have := findB_ok hb
            exact ⟨r, this.1, e.symm, this.2⟩
        · rename_i hj
          rw [if_neg hj]
          exact (Option.some.inj hx).symm
      | succ k =>
        have := ih.2 k (by simpa using h1) (by simpa using h2)
        rw [show j + 1 + k = j + (k + 1) by omega] at this
        exact this
    · cases h
theorem op_noL {x : IN} (h : opOk x.op) : isL x = false := by
  unfold opOk at h
  unfold isL
  simp
  omega
theorem res_op {ps : List (IN × Nat)} {j : Nat} {p : IN × Nat} {x : IN} (h : ResAt ps j p x) : x.op = p.1.op := by
  unfold ResAt at h
  split at h
  · obtain ⟨r, _, e, _⟩ := h; rw [e]
  · rw [h]
theorem res_rsok {ps : List (IN × Nat)} {rs : List IN} (hps : ∀ p ∈ ps, ItemOk p) (h : resD ps ps 0 = some rs) : RsOk rs := by
  obtain ⟨hl, hr⟩ := resD_ok ps ps 0 rs h
  intro x hx
  obtain ⟨k, hk, rfl⟩ := List.getElem_of_mem hx
  have h1 := hr k (by omega) hk
  have ho := (hps _ (List.getElem_mem (show k < ps.length by omega))).1
  refine ⟨op_noL (by rw [res_op h1]; exact ho), fun hj => ?_⟩
  unfold ResAt at h1
  split at h1
  · obtain ⟨r, hr1, e, _⟩ := h1
    rw [e]
    show (0 : Int) ≤ (r : Int) ∧ (r : Int) ≤ rs.length
    omega
  · rename_i hn
    rw [h1] at hj
    exact absurd hj hn
/-- A list's instructions by place. -/
theorem RL_at {l pre t : List IN} {x : IN} (e : l = pre ++ x :: t) (hx : isL x = false) : (RL l)[ixN pre]? = some (resL l x) := by
  have hlen : ∀ a : List IN, (a.filter fun x => !isL x).length = ixN a := by
    intro a
    induction a with
    | nil => rfl
    | cons y s ih =>
      rw [ixN]
      cases hy : isL y with
      | true => rw [List.filter_cons_of_neg (by rw [hy]; decide), ih]; simp
      | false => rw [List.filter_cons_of_pos (by rw [hy]; rfl), List.length_cons, ih]; simp; omega
  have h1 : RL l = (pre.filter fun x => !isL x).map (resL l) ++ resL l x :: (t.filter fun x => !isL x).map (resL l) := by
    unfold RL
    conv => lhs; arg 2; rw [e]
    rw [List.filter_append, List.filter_cons_of_pos (by rw [hx]; rfl), List.map_append, List.map_cons]
  rw [h1, List.getElem?_append_right (by rw [List.length_map, hlen]; exact Nat.le_refl _), List.length_map, hlen]
  simp
theorem RL_len (l : List IN) : (RL l).length = ixN l := by
  unfold RL
  rw [List.length_map]
  induction l with
  | nil => rfl
  | cons y s ih =>
    rw [ixN]
    cases hy : isL y with
    | true => rw [List.filter_cons_of_neg (by rw [hy]; decide), ih]; simp
    | false => rw [List.filter_cons_of_pos (by rw [hy]; rfl), List.length_cons, ih]; simp; omega
theorem bpos_succ : ∀ (ps : List (IN × Nat)) (j : Nat) (h : j < ps.length), bpos ps (j + 1) = bpos ps j + ps[j].2
  | p :: t, 0, h => by
    have e : bpos t 0 = 0 := by cases t <;> rfl
    rw [bpos, bpos, e]
    show p.2 + 0 = 0 + p.2
    omega
  | p :: t, j + 1, h => by
    have hj : j < t.length := by simpa using h
    have := bpos_succ t j hj
    rw [bpos, this, bpos]
    show _ = _ + t[j].2
    omega
theorem ixN_le (a b : List IN) : ixN a ≤ ixN (a ++ b) := by rw [ixN_app]; omega
theorem wI_enc {S : Nat → Nat} {i : Nat} {x : IN} (hj : isJ x = false) (h1 : opOk x.op) (h2 : -32768 ≤ x.arg ∧ x.arg ≤ 32767) (h3 : x.arg ≠ 0 → hasA x.op = true) : wI S i x = 1 + needN x.arg := by
  unfold wI
  have e : argI x = x.arg := argI_ok h2 (fun h => by
    rcases Decidable.em (x.arg = 0) with h0 | h0
    · exact h0
    · rw [h3 h0] at h; cases h)
  rw [if_neg (by rw [hj]; decide), encI_ok h1, e, encS_len _ _ _ (needN_le _)]
/-- The list by place. -/
def atI (l : List IN) (k : Nat) : IN := l.getD k ⟨38, 0⟩
theorem atI_at {l pre t : List IN} {x : IN} (e : l = pre ++ x :: t) : atI l pre.length = x := by
  unfold atI
  rw [List.getD_eq_getElem?_getD, e, List.getElem?_append_right (Nat.le_refl _)]
  simp
theorem atI_out {l : List IN} {k : Nat} (h : l.length ≤ k) : atI l k = ⟨38, 0⟩ := by
  unfold atI
  rw [List.getD_eq_getElem?_getD, List.getElem?_eq_none h]
  rfl
theorem split_at (l : List IN) (k : Nat) (h : k < l.length) : ∃ pre x t, l = pre ++ x :: t ∧ pre.length = k :=
  ⟨l.take k, l[k], l.drop (k + 1), by rw [← List.drop_eq_getElem_cons h, List.take_append_drop], by rw [List.length_take]; omega⟩
/-- The widths that the bytes had, at the list's places. -/
def wB (ps : List (IN × Nat)) (l : List IN) (k : Nat) : Nat := if isL (atI l k) = true then 0 else (ps.getD (ixN (l.take k)) (⟨38, 0⟩, 0)).2
def QB (ps : List (IN × Nat)) (l : List IN) (k : Nat) : Nat := if isJ (atI l k) = true then wB ps l k - 1 else 0
section
variable {ps : List (IN × Nat)} {rs l : List IN} (hps : ∀ p ∈ ps, ItemOk p) (hr : resD ps ps 0 = some rs) (hl : RL l = rs)
include hps hr hl
theorem item_of {pre t : List IN} {x : IN} (e : l = pre ++ x :: t) (hx : isL x = false) : ∃ p, ps[ixN pre]? = some p ∧ wB ps l pre.length = p.2 ∧ ResAt ps (ixN pre) p (resL l x) ∧ ItemOk p := by
  obtain ⟨h1, h2⟩ := resD_ok ps ps 0 rs hr
  have h3 := RL_at e hx
  rw [hl] at h3
  have hk : ixN pre < rs.length := by
    rcases Nat.lt_or_ge (ixN pre) rs.length with h | h
    · exact h
    · rw [List.getElem?_eq_none h] at h3; cases h3
  have hk2 : ixN pre < ps.length := by omega
  rw [List.getElem?_eq_getElem hk] at h3
  have h4 := h2 (ixN pre) hk2 hk
  rw [Option.some.inj h3, Nat.zero_add] at h4
  refine ⟨ps[ixN pre], List.getElem?_eq_getElem hk2, ?_, h4, hps _ (List.getElem_mem hk2)⟩
  unfold wB
  have e2 : l.take pre.length = pre := by rw [e]; simp
  rw [atI_at e, if_neg (by rw [hx]; decide), e2, List.getD_eq_getElem?_getD, List.getElem?_eq_getElem hk2]
  rfl
theorem posN_wB : ∀ (t pre : List IN), l = pre ++ t → posN (wB ps l) pre.length = bpos ps (ixN pre) → ∀ s u, t = s ++ u → posN (wB ps l) (pre ++ s).length = bpos ps (ixN (pre ++ s))
  | t, pre, e, h, [], u, e2 => by rw [List.append_nil]; exact h
  | [], pre, e, h, x :: s, u, e2 => by cases e2
  | y :: t, pre, e, h, x :: s, u, e2 => by
    have e3 : y = x := (List.cons.inj e2).1
    have e4 : t = s ++ u := (List.cons.inj e2).2
    subst e3
    have e5 : pre ++ y :: s = (pre ++ [y]) ++ s := by simp
    rw [e5]
    refine posN_wB t (pre ++ [y]) (by rw [e]; simp) ?_ s u e4
    rw [List.length_append, List.length_singleton, posN, h, ixN_app]
    cases hy : isL y with
    | true =>
      have e6 : ixN [y] = 0 := by rw [ixN, if_pos hy]; rfl
      unfold wB
      rw [atI_at e, if_pos hy, e6]; rfl
    | false =>
      have e6 : ixN [y] = 1 := by rw [ixN, if_neg (by rw [hy]; decide)]; rfl
      obtain ⟨p, hp, hw, _⟩ := item_of hps hr hl e hy
      have hk : ixN pre < ps.length := by
        rcases Nat.lt_or_ge (ixN pre) ps.length with h | h
        · exact h
        · rw [List.getElem?_eq_none h] at hp; cases hp
      rw [hw, e6, bpos_succ ps _ hk]
      rw [List.getElem?_eq_getElem hk] at hp
      rw [Option.some.inj hp]
theorem posB {pre t : List IN} (e : l = pre ++ t) : posN (wB ps l) pre.length = bpos ps (ixN pre) := by
  have := posN_wB hps hr hl l [] rfl (by cases ps <;> rfl) pre t e
  exact this
theorem WI_wB : ∀ i, widN (fun x => (encI x).length) (atI l) (QB ps l) i ≤ wB ps l i := fun i => by
  show wI (QB ps l) i (atI l i) ≤ wB ps l i
  rcases Nat.lt_or_ge i l.length with h | h
  · obtain ⟨pre, x, t, e, rfl⟩ := split_at l i h
    have hx := atI_at e
    rw [hx]
    cases hL : isL x with
    | true => rw [wI_L _ _ hL]; omega
    | false =>
      obtain ⟨p, hp, hw, hres, hok⟩ := item_of hps hr hl e hL
      rw [hw]
      cases hj : isJ x with
      | true =>
        unfold wI QB
        rw [if_pos hj, hx, if_pos hj, hw]
        have := hok.2.2.1
        omega
      | false =>
        have e2 : resL l x = x := by unfold resL; rw [if_neg (by rw [hj]; decide)]
        rw [e2] at hres
        have e3 : x = p.1 := by
          have hop := res_op hres
          unfold ResAt at hres
          rw [if_neg (by unfold isJ at hj ⊢; rw [← hop, hj]; decide)] at hres
          exact hres
        rw [wI_enc hj (by rw [e3]; exact hok.1) (by rw [e3]; exact hok.2.1) (by rw [e3]; exact hok.2.2.2), e3]
        exact hok.2.2.1
  · rw [atI_out h, wI_L _ _ (isL_38 _)]; omega
/-- Where a jump's label stands. -/
theorem farB (h : OnceL l) {pre t : List IN} {x : IN} (e : l = pre ++ x :: t) (hj : isJ x = true) : ∃ p, ps[ixN pre]? = some p ∧ wB ps l pre.length = p.2 ∧ ItemOk p ∧ farN (wB ps l) (fun k => (stndGo (atI l k).arg l 0).toNat) pre.length = p.1.arg := by
  obtain ⟨p, hp, hw, hres, hok⟩ := item_of hps hr hl e (isJ_L hj)
  refine ⟨p, hp, hw, hok, ?_⟩
  obtain ⟨u, hu, huL, hua⟩ := h.2 x (by rw [e]; simp) hj
  obtain ⟨q, s, e2⟩ := List.append_of_mem hu
  have h1 : stndGo x.arg l 0 = ((0 + q.length : Nat) : Int) := by
    have := stnd_at x.arg q u s 0 huL hua (fun y hy hL => by rw [← hua]; exact once_no h e2 huL y hy hL)
    rw [← e2] at this; exact this
  have hop := res_op hres
  have e3 : resL l x = ⟨x.op, idxOf x.arg l 0⟩ := by unfold resL; rw [if_pos hj]
  rw [e3] at hres hop
  unfold ResAt at hres
  have hop' : x.op = p.1.op := hop
  rw [if_pos (by unfold isJ at hj ⊢; rw [← hop', hj])] at hres
  obtain ⟨r, hr1, e4, hb⟩ := hres
  have e5 : (idxOf x.arg l 0 : Int) = r := congrArg IN.arg e4
  have e6 : idxOf x.arg l 0 = ixN q := by rw [← hua]; exact once_idx h e2 huL
  have e7 : r = ixN q := by omega
  unfold farN
  show (posN (wB ps l) (stndGo (atI l pre.length).arg l 0).toNat : Int) - (posN (wB ps l) (pre.length + 1) : Int) = p.1.arg
  rw [atI_at e, h1]
  have e8 : (((0 + q.length : Nat) : Int)).toNat = q.length := by omega
  rw [e8, posB hps hr hl e2]
  have e9 := posB hps hr hl (show l = (pre ++ [x]) ++ t by rw [e]; simp)
  rw [List.length_append, List.length_singleton, ixN_app] at e9
  have e10 : ixN [x] = 1 := by rw [ixN, if_neg (by rw [isJ_L hj]; decide)]; rfl
  rw [e10] at e9
  rw [e9, ← e7, hb]
  omega
/-- The bytes' sizes are enough. -/
theorem enoughB (h : OnceL l) : Enough (fun x => (encI x).length) (atI l) (fun k => (stndGo (atI l k).arg l 0).toNat) l.length (QB ps l) := by
  intro k hk hj
  obtain ⟨pre, x, t, e, rfl⟩ := split_at l k hk
  have hx := atI_at e
  rw [hx] at hj
  obtain ⟨p, hp, hw, hok, hf⟩ := farB hps hr hl h e hj
  have h1 := needN_up (farN_up (WI_wB hps hr hl) (fun k => (stndGo (atI l k).arg l 0).toNat) pre.length)
  rw [hf] at h1
  unfold wantN
  refine Nat.le_trans h1 ?_
  unfold QB
  rw [hx, if_pos hj, hw]
  have := hok.2.2.1
  omega
end
/-- Sizes as the program ends with: no more than wanted, enough for each, the least such. -/
def tgtN (l : List IN) (k : Nat) : Nat := (stndGo (atI l k).arg l 0).toNat
structure AsmSz (l : List IN) (S : Nat → Nat) : Prop where
  tight : Tight (fun x => (encI x).length) (atI l) (tgtN l) S
  enough : Enough (fun x => (encI x).length) (atI l) (tgtN l) l.length S
  least : ∀ Q, Enough (fun x => (encI x).length) (atI l) (tgtN l) l.length Q → ∀ i, S i ≤ Q i
theorem posN_mono {w w' : Nat → Nat} (h : ∀ i, w i ≤ w' i) (n : Nat) : posN w n ≤ posN w' n := by
  have h1 := posN_up h 0 n (Nat.zero_le _)
  have e1 : posN w 0 = 0 := rfl
  have e2 : posN w' 0 = 0 := rfl
  omega
theorem code_len (F : Nat → Int) (S : Nat → Nat) (l : List IN) (hS : ∀ i, S i ≤ 2) : ∀ (t pre : List IN), l = pre ++ t → (codeGo F S t pre.length).length + posN (WI S l) pre.length = posN (WI S l) l.length
  | [], pre, e => by
    rw [codeGo, e, List.append_nil]
    show 0 + _ = _
    omega
  | x :: t, pre, e => by
    have ih := code_len F S l hS t (pre ++ [x]) (by rw [e]; simp)
    rw [List.length_append, List.length_singleton, posN] at ih
    rw [codeGo, List.length_append, ← ih]
    have e1 : WI S l pre.length = wI S pre.length x := by
      show wI S pre.length (atI l pre.length) = _
      rw [atI_at e]
    have e2 : (itemB F S pre.length x).length = wI S pre.length x := by
      unfold itemB wI
      split
      · exact encS_len _ _ _ (hS _)
      · rfl
    rw [e1, e2]
    omega
/-- Again: what was disassembled has sizes so that its code is no longer than the bytes. -/
theorem again_len {b : List UInt8} {l : List IN} (h : disP b = .inr l) {F : Nat → Int} {S : Nat → Nat} (hS : AsmSz l S) : (codeGo F S l 0).length ≤ b.length := by
  unfold disP at h
  cases hd : decAll b.length b with
  | inl e => rw [hd] at h; cases h
  | inr ps =>
    rw [hd] at h
    simp only at h
    cases hr : resD ps ps 0 with
    | none => rw [hr] at h; cases h
    | some rs =>
      rw [hr] at h
      have e : buildN rs = l := Sum.inr.inj h
      obtain ⟨hps, hb⟩ := decAll_ok _ _ _ hd
      have hok := res_rsok hps hr
      have hRL : RL l = rs := by rw [← e]; exact RL_build hok
      have hon : OnceL l := by rw [← e]; exact once_build hok
      have hle := hS.least _ (enoughB hps hr hRL hon)
      have h2 : ∀ i, S i ≤ 2 := tight_two _ _ _ hS.tight
      have h3 := code_len F S l h2 l [] rfl
      have h4 : posN (WI S l) l.length ≤ posN (wB ps l) l.length := posN_mono (fun i => Nat.le_trans (widN_up (fun x => (encI x).length) (atI l) hle i) (WI_wB hps hr hRL i)) l.length
      have h5 := posB hps hr hRL (pre := l) (t := []) (by simp)
      have h6 : ixN l = ps.length := by rw [← RL_len, hRL]; exact (resD_ok ps ps 0 rs hr).1
      rw [h6, hb] at h5
      have h7 : (codeGo F S l 0).length + 0 = posN (WI S l) l.length := h3
      omega
end Go.Proofs.YtbcpopakdlplgaaDoor
namespace Go.Proofs.YtbcpopakdlplgaaDoor
set_option linter.unusedVariables false
set_option linter.unusedSimpArgs false

/-- Sizes on the way. -/
structure AsmWay (l : List IN) (S : Nat → Nat) : Prop where
  tight : Tight (fun x => (encI x).length) (atI l) (tgtN l) S
  least : ∀ Q, Enough (fun x => (encI x).length) (atI l) (tgtN l) l.length Q → ∀ i, S i ≤ Q i
/-- One sweep over all jumps. -/
def sweepL (l : List IN) (S : Nat → Nat) : Nat → Nat := sweepN (fun x => (encI x).length) (atI l) (tgtN l) l.length S
theorem way_zero (l : List IN) : AsmWay l (fun _ => 0) := ⟨tight_zero _ _ _, fun Q _ i => Nat.zero_le _⟩
theorem way_sweep {l : List IN} {S : Nat → Nat} (h : AsmWay l S) : AsmWay l (sweepL l S) :=
  ⟨sweepN_tight _ _ _ h.tight _, fun Q hQ i => sweepN_below _ _ _ (h.least Q hQ) hQ l.length (Nat.le_refl _) i⟩
theorem way_end {l : List IN} {S : Nat → Nat} (h : AsmWay l S) (he : sweepL l S = S) : AsmSz l S := ⟨h.tight, enough_of _ _ _ he, h.least⟩
theorem sz_uniq {l : List IN} {S S' : Nat → Nat} (h : AsmSz l S) (h' : AsmSz l S') : S = S' := funext fun i =>
  Nat.le_antisymm (h.least _ h'.enough i) (h'.least _ h.enough i)
theorem way_measure {l : List IN} {S : Nat → Nat} (h : AsmWay l S) : sumN S l.length ≤ 2 * l.length := sumN_two _ _ _ h.tight _
/-- A sweep that changes something makes all more. -/
theorem sweep_lt {l : List IN} {S : Nat → Nat} (h : sweepL l S ≠ S) : sumN S l.length < sumN (sweepL l S) l.length := by
  have hex : ∃ k, k < l.length ∧ S k < sweepL l S k := by
    rcases Classical.em (∃ k, k < l.length ∧ S k < sweepL l S k) with h1 | h1
    · exact h1
    · exfalso
      apply h
      funext i
      rcases Nat.lt_or_ge i l.length with hi | hi
      · have h2 := sweepN_up (fun x => (encI x).length) (atI l) (tgtN l) S l.length i
        have h3 : ¬ S i < sweepL l S i := fun hh => h1 ⟨i, hi, hh⟩
        have h4 : S i ≤ sweepL l S i := h2
        omega
      · exact sweepN_out _ _ _ S l.length i hi
  obtain ⟨k, hk, hlt⟩ := hex
  exact sumN_lt (fun i => sweepN_up _ _ _ S l.length i) k hlt l.length hk
theorem sz_ex (l : List IN) : ∃ S, AsmSz l S := by
  have go : ∀ (m : Nat) (S : Nat → Nat), AsmWay l S → 2 * l.length ≤ sumN S l.length + m → ∃ S, AsmSz l S := by
    intro m
    induction m with
    | zero =>
      intro S h hm
      rcases Classical.em (sweepL l S = S) with he | he
      · exact ⟨S, way_end h he⟩
      · have := sweep_lt he
        have := way_measure (way_sweep h)
        omega
    | succ m ih =>
      intro S h hm
      rcases Classical.em (sweepL l S = S) with he | he
      · exact ⟨S, way_end h he⟩
      · have := sweep_lt he
        exact ih _ (way_sweep h) (by omega)
  exact go (2 * l.length) _ (way_zero l) (by omega)
/-- Distances. -/
def farL (l : List IN) (S : Nat → Nat) (k : Nat) : Int := farN (WI S l) (tgtN l) k
theorem WI_three {l : List IN} {S : Nat → Nat} (hS : ∀ i, S i ≤ 2) (i : Nat) : WI S l i ≤ 3 := by
  unfold WI wI
  have := hS i
  split
  · omega
  · unfold encI
    split
    · exact Nat.zero_le _
    · rw [encS_len _ _ _ (needN_le _)]
      have := needN_le (argI (l.getD i ⟨38, 0⟩))
      omega
theorem posN_three {w : Nat → Nat} (h : ∀ i, w i ≤ 3) : ∀ k, posN w k ≤ 3 * k
  | 0 => Nat.le_refl _
  | k + 1 => by have := posN_three h k; have := h k; rw [posN]; omega
theorem stnd_le (a : Int) : ∀ (l : List IN) (i : Nat), stndGo a l i ≤ ((i + l.length : Nat) : Int)
  | [], i => by rw [stndGo]; omega
  | x :: t, i => by
    have := stnd_le a t (i + 1)
    rw [stndGo, List.length_cons]
    split <;> omega
theorem far_bd {l : List IN} {S : Nat → Nat} (hS : ∀ i, S i ≤ 2) (hl : l.length ≤ 10000) (k : Nat) (hk : k < l.length) : -32768 ≤ farL l S k ∧ farL l S k ≤ 32767 := by
  unfold farL farN
  have h1 := posN_three (WI_three (l := l) hS) (tgtN l k)
  have h2 := posN_three (WI_three (l := l) hS) (k + 1)
  have h3 : tgtN l k ≤ l.length := by
    have := stnd_le (atI l k).arg l 0
    unfold tgtN
    omega
  omega
theorem atI_get {l : List IN} {k : Nat} (h : k < l.length) : atI l k = l[k] := by
  unfold atI
  rw [List.getD_eq_getElem?_getD, List.getElem?_eq_getElem h]
  rfl
theorem sz_jump {l : List IN} {S : Nat → Nat} (h : AsmSz l S) (hl : l.length ≤ 10000) : ∀ j (hj : j < l.length), isJ l[j] = true → S j ≤ 2 ∧ needN (farL l S j) ≤ S j ∧ (-32768 ≤ farL l S j ∧ farL l S j ≤ 32767) := fun j hj hJ =>
  ⟨tight_two _ _ _ h.tight j, h.enough j hj (by rw [atI_get hj]; exact hJ), far_bd (tight_two _ _ _ h.tight) hl j hj⟩
/-- AsmBack. -/
theorem asm_back {l : List IN} {S : Nat → Nat} (h : OnceL l) (hx : ∀ x ∈ l, InsOk x) (hS : AsmSz l S) (hl : l.length ≤ 10000) : disP (codeGo (farL l S) S l 0) = .inr (normP l) := by
  refine dis_code (farL l S) S h hx (sz_jump hS hl) (fun pre x suf p u t e hj e2 huL hua => ?_)
  have h1 : stndGo x.arg l 0 = ((0 + p.length : Nat) : Int) := by
    have := stnd_at x.arg p u t 0 huL hua (fun y hy hL => by rw [← hua]; exact once_no h e2 huL y hy hL)
    rw [← e2] at this; exact this
  have h2 : tgtN l pre.length = p.length := by
    unfold tgtN
    rw [atI_at e, h1]
    omega
  unfold farL farN
  rw [h2]
theorem bld_ok {rs : List IN} (hr : ∀ x ∈ rs, InsOk x) : ∀ (t : List IN) (i : Nat), (∀ x ∈ t, InsOk x) → ∀ y ∈ labGo rs (fun i => (rankI rs i : Int)) t i, InsOk y
  | [], i, _, y, hy => by
    rw [labGo] at hy
    split at hy
    · have : y = ⟨38, (rankI rs i : Int)⟩ := by simpa using hy
      rw [this]; exact .inl (isL_38 _)
    · cases hy
  | x :: t, i, hx, y, hy => by
    rw [labGo] at hy
    rcases List.mem_append.1 hy with hy | hy
    · split at hy
      · have : y = ⟨38, (rankI rs i : Int)⟩ := by simpa using hy
        rw [this]; exact .inl (isL_38 _)
      · cases hy
    · rcases List.mem_cons.1 hy with e | hy
      · by_cases hj : isJ x = true
        · rw [if_pos hj] at e
          rw [e]; exact .inr (.inl hj)
        · rw [if_neg hj] at e
          rw [e]; exact hx x (List.mem_cons_self ..)
      · exact bld_ok hr t (i + 1) (fun z hz => hx z (List.mem_cons_of_mem _ hz)) y hy
theorem lab_len (rs : List IN) (f : Nat → Int) : ∀ (t : List IN) (i : Nat), (labGo rs f t i).length ≤ 2 * t.length + 1
  | [], i => by
    rw [labGo]
    split
    · exact Nat.le_refl _
    · exact Nat.zero_le _
  | x :: t, i => by
    have := lab_len rs f t (i + 1)
    rw [labGo, List.length_append, List.length_cons, List.length_cons]
    split
    · rw [List.length_singleton]; omega
    · rw [List.length_nil]; omega
theorem bpos_ge : ∀ (ps : List (IN × Nat)), (∀ p ∈ ps, 1 ≤ p.2) → ps.length ≤ bpos ps ps.length
  | [], _ => Nat.zero_le _
  | p :: t, h => by
    have := bpos_ge t (fun q hq => h q (List.mem_cons_of_mem _ hq))
    have := h p (List.mem_cons_self ..)
    rw [List.length_cons, bpos]; omega
/-- What was disassembled. -/
theorem dis_ok {b : List UInt8} {l : List IN} (h : disP b = .inr l) : OnceL l ∧ (∀ x ∈ l, InsOk x) ∧ normP l = l ∧ l.length ≤ 2 * b.length + 1 := by
  unfold disP at h
  cases hd : decAll b.length b with
  | inl e => rw [hd] at h; cases h
  | inr ps =>
    rw [hd] at h
    simp only at h
    cases hr : resD ps ps 0 with
    | none => rw [hr] at h; cases h
    | some rs =>
      rw [hr] at h
      have e : buildN rs = l := Sum.inr.inj h
      obtain ⟨hps, hb⟩ := decAll_ok _ _ _ hd
      obtain ⟨hl, hat⟩ := resD_ok ps ps 0 rs hr
      have hok := res_rsok hps hr
      have hlen := bpos_ge ps (fun p hp => by have := (hps p hp).2.2.1; omega)
      have hins : ∀ x ∈ rs, InsOk x := fun x hx => by
        obtain ⟨k, hk, rfl⟩ := List.getElem_of_mem hx
        have h1 := hat k (by omega) hk
        have hi := hps _ (List.getElem_mem (show k < ps.length by omega))
        by_cases hj : isJ rs[k] = true
        · exact .inr (.inl hj)
        · have hop := res_op h1
          unfold ResAt at h1
          rw [if_neg (by unfold isJ at hj ⊢; rw [← hop]; exact hj)] at h1
          rw [h1]
          refine .inr (.inr ⟨hi.1, hi.2.1, fun hh => ?_⟩)
          rcases Decidable.em ((ps[k]'(by omega)).1.arg = 0) with h0 | h0
          · exact h0
          · rw [hi.2.2.2 h0] at hh; cases hh
      subst e
      refine ⟨once_build hok, ?_, norm_of_build hok, ?_⟩
      · unfold buildN
        rw [build_lab]
        exact bld_ok hins rs 0 hins
      · unfold buildN
        rw [build_lab]
        have := lab_len rs (fun i => (rankI rs i : Int)) rs 0
        omega
/-- AsmAgain. -/
theorem asm_again {b : List UInt8} {l : List IN} (h : disP b = .inr l) (hb : b.length ≤ 4000) {S : Nat → Nat} (hS : AsmSz l S) : (codeGo (farL l S) S l 0).length ≤ b.length ∧ disP (codeGo (farL l S) S l 0) = .inr l := by
  obtain ⟨h1, h2, h3, h4⟩ := dis_ok h
  refine ⟨again_len h hS, ?_⟩
  rw [asm_back h1 h2 hS (by omega), h3]
/-- An instruction that stands in code. -/
def InsC (x : IN) : Prop := opOk x.op ∧ (-32768 ≤ x.arg ∧ x.arg ≤ 32767) ∧ (hasA x.op = false → x.arg = 0)
theorem dec_c {x : IN} (h : InsC x) (rest : List UInt8) : decI (encI x ++ rest) = .inr (x, (encI x).length) ∧ 1 ≤ (encI x).length := by
  have e := argI_ok h.2.1 h.2.2
  rw [encI_ok h.1, e, encS_len _ _ _ (needN_le _)]
  refine ⟨dec_enc x.op x.arg (needN x.arg) rest h.1 (needN_le _) (Nat.le_refl _) h.2.1 (fun h0 => ?_) (.inl rfl), by omega⟩
  cases hh : hasA x.op with
  | true => rfl
  | false => rw [h.2.2 hh] at h0; exact absurd h0 (by decide)
/-- AsmLeast: code is instructions, each in the fewest bytes. -/
theorem asm_least {l : List IN} {S : Nat → Nat} (hx : ∀ x ∈ l, InsOk x) (hS : AsmSz l S) (hl : l.length ≤ 10000) : ∀ (t pre : List IN), l = pre ++ t → ∃ ys : List IN, codeGo (farL l S) S t pre.length = ys.flatMap encI ∧ ∀ y ∈ ys, InsC y
  | [], pre, e => ⟨[], rfl, fun y hy => by cases hy⟩
  | x :: t, pre, e => by
    obtain ⟨ys, h1, h2⟩ := asm_least hx hS hl t (pre ++ [x]) (by rw [e]; simp)
    rw [List.length_append, List.length_singleton] at h1
    rw [codeGo, h1]
    have hk : pre.length < l.length := by rw [e, List.length_append, List.length_cons]; omega
    have hat := atI_at e
    have hget : l[pre.length] = x := by rw [← atI_get hk]; exact hat
    rcases Classical.em (isL x = true) with hL | hL
    · refine ⟨ys, ?_, h2⟩
      unfold itemB
      rw [if_neg (fun hj => by rw [isJ_L hj] at hL; cases hL), encI_label hL, List.nil_append]
    · rcases Classical.em (isJ x = true) with hj | hj
      · obtain ⟨g1, g2, g3⟩ := sz_jump hS hl pre.length hk (by rw [hget]; exact hj)
        have g4 : S pre.length = needN (farL l S pre.length) := least_eq _ _ _ hS.tight hS.enough pre.length hk (by rw [hat]; exact hj)
        have hop : x.op = 24 ∨ x.op = 25 := by
          unfold isJ at hj
          simpa using hj
        have hc : InsC ⟨x.op, farL l S pre.length⟩ := by
          refine ⟨?_, g3, fun hh => ?_⟩
          · unfold opOk; show 1 ≤ x.op ∧ x.op < 38; omega
          · have hh' : hasA x.op = false := hh
            rcases hop with h | h <;> rw [h] at hh' <;> exact absurd hh' (by decide)
        refine ⟨⟨x.op, farL l S pre.length⟩ :: ys, ?_, fun y hy => ?_⟩
        · unfold itemB
          rw [if_pos hj, List.flatMap_cons, encI_ok hc.1, argI_ok hc.2.1 hc.2.2, ← g4]
        · rcases List.mem_cons.1 hy with rfl | hy
          · exact hc
          · exact h2 y hy
      · rcases hx x (by rw [e]; simp) with h | h | h
        · exact absurd h hL
        · exact absurd h hj
        · refine ⟨x :: ys, ?_, fun y hy => ?_⟩
          · unfold itemB
            rw [if_neg hj, List.flatMap_cons]
          · rcases List.mem_cons.1 hy with rfl | hy
            · exact h
            · exact h2 y hy
end Go.Proofs.YtbcpopakdlplgaaDoor
namespace Go.Proofs.YtbcpopakdlplgaaDoor
set_option linter.unusedVariables false
set_option linter.unusedSimpArgs false

/-- Does a label stand in a list? -/
def hasLab (l : List IN) (a : Int) : Bool := l.any fun y => isL y && y.arg == a
theorem hasLab_iff {l : List IN} {a : Int} : hasLab l a = true ↔ ∃ y ∈ l, isL y = true ∧ y.arg = a := by
  unfold hasLab
  rw [List.any_eq_true]
  simp
/-- An instruction, no label and no jump, that may not be. -/
def badI (x : IN) : Bool := !(decide (1 ≤ x.op) && decide (x.op < 38)) || (!hasA x.op && decide (x.arg ≠ 0)) || !(decide (-32768 ≤ x.arg) && decide (x.arg ≤ 32767))
/-- What is wrong first; 0: nothing. -/
def wrongGo (l0 : List IN) : List IN → List IN → Int
  | _, [] => 0
  | pre, x :: t => if isJ x = true ∧ hasLab l0 x.arg = false then 11 else if isL x = true ∧ hasLab pre x.arg = true then 10 else if isL x = true ∨ isJ x = true then wrongGo l0 (pre ++ [x]) t else if badI x = true then 16 else wrongGo l0 (pre ++ [x]) t
def wrongP (l : List IN) : Int := wrongGo l [] l
theorem badI_ok {x : IN} (h : badI x = false) : opOk x.op ∧ (-32768 ≤ x.arg ∧ x.arg ≤ 32767) ∧ (hasA x.op = false → x.arg = 0) := by
  unfold badI at h
  simp only [Bool.or_eq_false_iff, Bool.not_eq_false', Bool.and_eq_true, decide_eq_true_eq, Bool.and_eq_false_iff, Bool.not_eq_eq_eq_not, Bool.not_false, Bool.not_true, decide_eq_false_iff_not, ne_eq, Classical.not_not] at h
  obtain ⟨⟨h1, h2⟩, h3⟩ := h
  refine ⟨h1, h3, fun hh => ?_⟩
  rcases h2 with h | h
  · rw [hh] at h; cases h
  · exact h
theorem wrong_go (l0 : List IN) : ∀ (t pre : List IN), wrongGo l0 pre t = 0 → (∀ x ∈ t, isJ x = true → hasLab l0 x.arg = true) ∧ (∀ x ∈ t, InsOk x) ∧ OnceU t ∧ ∀ y ∈ pre, ∀ x ∈ t, isL y = true → isL x = true → x.arg ≠ y.arg
  | [], pre, _ => ⟨fun x hx => (by cases hx), fun x hx => (by cases hx), fun i j hi => by simp at hi, fun y _ x hx => by cases hx⟩
  | x :: t, pre, h => by
    rw [wrongGo] at h
    split at h
    · exact absurd h (by decide)
    · rename_i h1
      split at h
      · exact absurd h (by decide)
      · rename_i h2
        have key : wrongGo l0 (pre ++ [x]) t = 0 ∧ InsOk x := by
          split at h
          · rename_i h3
            refine ⟨h, ?_⟩
            rcases h3 with h3 | h3
            · exact .inl h3
            · exact .inr (.inl h3)
          · split at h
            · exact absurd h (by decide)
            · rename_i h4
              exact ⟨h, .inr (.inr (badI_ok (by simpa using h4)))⟩
        obtain ⟨i1, i2, i3, i4⟩ := wrong_go l0 t (pre ++ [x]) key.1
        refine ⟨fun y hy hj => ?_, fun y hy => ?_, ?_, fun y hy z hz hyL hzL => ?_⟩
        · rcases List.mem_cons.1 hy with rfl | hy
          · cases hh : hasLab l0 y.arg with
            | true => rfl
            | false => exact absurd ⟨hj, hh⟩ h1
          · exact i1 y hy hj
        · rcases List.mem_cons.1 hy with rfl | hy
          · exact key.2
          · exact i2 y hy
        · exact onceU_cons (fun hx y hy hyL => i4 x (by simp) y hy hx hyL) i3
        · rcases List.mem_cons.1 hz with rfl | hz
          · intro e
            exact h2 ⟨hzL, hasLab_iff.2 ⟨y, hy, hyL, e.symm⟩⟩
          · exact i4 y (List.mem_append_left _ hy) z hz hyL hzL
theorem wrong_ok {l : List IN} (h : wrongP l = 0) : OnceL l ∧ ∀ x ∈ l, InsOk x := by
  obtain ⟨h1, h2, h3, _⟩ := wrong_go l l [] h
  exact ⟨⟨h3, fun x hx hj => hasLab_iff.1 (h1 x hx hj)⟩, h2⟩
theorem badI_not {x : IN} (h : opOk x.op ∧ (-32768 ≤ x.arg ∧ x.arg ≤ 32767) ∧ (hasA x.op = false → x.arg = 0)) : badI x = false := by
  unfold badI
  obtain ⟨h1, h2, h3⟩ := h
  have h1' : 1 ≤ x.op ∧ x.op < 38 := h1
  rw [decide_eq_true h1'.1, decide_eq_true h1'.2, decide_eq_true h2.1, decide_eq_true h2.2]
  cases hh : hasA x.op with
  | true => rfl
  | false => rw [h3 hh]; rfl
/-- Nothing is wrong with a list that is right. -/
theorem ok_go {l0 : List IN} (h : OnceL l0) (hx : ∀ x ∈ l0, InsOk x) : ∀ (t pre : List IN), l0 = pre ++ t → wrongGo l0 pre t = 0
  | [], _, _ => rfl
  | x :: t, pre, e => by
    have ih := ok_go h hx t (pre ++ [x]) (by rw [e]; simp)
    have hm : x ∈ l0 := by rw [e]; simp
    rw [wrongGo, ih, if_neg (fun hc => by
      have := hasLab_iff.2 (h.2 x hm hc.1)
      rw [hc.2] at this; cases this), if_neg (fun hc => by
      obtain ⟨y, hy, hyL, hya⟩ := hasLab_iff.1 hc.2
      exact once_no h e hc.1 y hy hyL hya)]
    split
    · rfl
    · rename_i h3
      rcases hx x hm with h4 | h4 | h4
      · exact absurd (.inl h4) h3
      · exact absurd (.inr h4) h3
      · rw [badI_not h4, if_neg (by decide)]
theorem ok_wrong {l : List IN} (h : OnceL l) (hx : ∀ x ∈ l, InsOk x) : wrongP l = 0 := ok_go h hx l [] rfl
/-- What Assemble answers, of lists that are not too long. -/
noncomputable def asmP (l : List IN) : Int ⊕ List UInt8 := if wrongP l = 0 then .inr (codeGo (farL l (sz_ex l).choose) (sz_ex l).choose l 0) else .inl (wrongP l)
theorem asmP_sz {l : List IN} {S : Nat → Nat} (h : AsmSz l S) (hw : wrongP l = 0) : asmP l = .inr (codeGo (farL l S) S l 0) := by
  unfold asmP
  rw [if_pos hw, sz_uniq (sz_ex l).choose_spec h]
/-- AsmBack. -/
theorem back_law {l : List IN} {b : List UInt8} (hl : l.length ≤ 10000) (h : asmP l = .inr b) : disP b = .inr (normP l) := by
  unfold asmP at h
  split at h
  · rename_i hw
    have e := Sum.inr.inj h
    subst e
    obtain ⟨h1, h2⟩ := wrong_ok hw
    exact asm_back h1 h2 (sz_ex l).choose_spec hl
  · cases h
/-- AsmAgain. -/
theorem again_law {b : List UInt8} {l : List IN} (hb : b.length ≤ 4000) (h : disP b = .inr l) : ∃ c, asmP l = .inr c ∧ c.length ≤ b.length ∧ disP c = .inr l := by
  obtain ⟨h1, h2, _, _⟩ := dis_ok h
  have hS := (sz_ex l).choose_spec
  obtain ⟨g1, g2⟩ := asm_again h hb hS
  exact ⟨_, asmP_sz hS (ok_wrong h1 h2), g1, g2⟩
/-- AsmLeast. -/
theorem least_law {l : List IN} {b : List UInt8} (hl : l.length ≤ 10000) (h : asmP l = .inr b) : ∃ ys : List IN, b = ys.flatMap encI ∧ ∀ y ∈ ys, InsC y := by
  unfold asmP at h
  split at h
  · rename_i hw
    have e := Sum.inr.inj h
    subst e
    obtain ⟨h1, h2⟩ := wrong_ok hw
    exact asm_least h2 (sz_ex l).choose_spec hl l [] rfl
  · cases h
end Go.Proofs.YtbcpopakdlplgaaDoor
namespace Go.Proofs.YtbcpopakdlplgaaDoor
set_option linter.unusedVariables false
set_option linter.unusedSimpArgs false

/-- Does a jump lead to where? -/
def askPos (ps : List (IN × Nat)) : List (IN × Nat) → Nat → Int → Bool
  | [], _, _ => false
  | p :: t, j, pos => (isJ p.1 && (bpos ps (j + 1) : Int) + p.1.arg == pos) || askPos ps t (j + 1) pos
/-- What the program lays, and the labels' numbers. -/
def disGo (asked : Int → Bool) : List (IN × Nat) → Int → Int → List IN × List (Int × Int)
  | [], pos, n => if asked pos = true then ([⟨38, n⟩], [(pos, n)]) else ([], [])
  | p :: t, pos, n =>
    let x : IN := if isJ p.1 = true then ⟨p.1.op, p.1.arg + (pos + p.2)⟩ else p.1
    if asked pos = true then (⟨38, n⟩ :: x :: (disGo asked t (pos + p.2) (n + 1)).1, (pos, n) :: (disGo asked t (pos + p.2) (n + 1)).2)
    else (x :: (disGo asked t (pos + p.2) n).1, (disGo asked t (pos + p.2) n).2)
def disB (ps : List (IN × Nat)) : List IN := (disGo (askPos ps ps 0) ps 0 0).1.map (setJ (disGo (askPos ps ps 0) ps 0 0).2)
/-- The numbers, by place. -/
def pairsD (rs : List IN) (ps : List (IN × Nat)) : Nat → Nat → List (Int × Int)
  | 0, j => if askI rs j = true then [((bpos ps j : Int), (rankI rs j : Int))] else []
  | m + 1, j => (if askI rs j = true then [((bpos ps j : Int), (rankI rs j : Int))] else []) ++ pairsD rs ps m (j + 1)
theorem lastN_app : ∀ (a b : List (Int × Int)) (x v : Int), lastN (a ++ b) x v = lastN b x (lastN a x v)
  | [], b, x, v => rfl
  | p :: t, b, x, v => by rw [List.cons_append, lastN, lastN, lastN_app t b]
theorem bpos_inj {ps : List (IN × Nat)} (h : ∀ p ∈ ps, 1 ≤ p.2) {r r' : Nat} (h1 : r ≤ ps.length) (h2 : r' ≤ ps.length) (e : bpos ps r = bpos ps r') : r = r' := by
  rcases Nat.lt_trichotomy r r' with h3 | h3 | h3
  · have := bpos_lt ps r r' h h3 h2; omega
  · exact h3
  · have := bpos_lt ps r' r h h3 h1; omega
theorem pairsD_none {rs : List IN} {ps : List (IN × Nat)} (h : ∀ p ∈ ps, 1 ≤ p.2) {r : Nat} : ∀ (m j : Nat) (v : Int), r < j → j + m ≤ ps.length → lastN (pairsD rs ps m j) (bpos ps r) v = v
  | 0, j, v, h1, h2 => by
    rw [pairsD]
    split
    · rw [lastN, lastN, if_neg (fun e => by
        have e' : ((bpos ps j : Nat) : Int) = bpos ps r := e
        have := bpos_inj h (r := j) (r' := r) (by omega) (by omega) (by omega)
        omega)]
    · rfl
  | m + 1, j, v, h1, h2 => by
    have ih := fun v => pairsD_none h (rs := rs) (r := r) m (j + 1) v (by omega) (by omega)
    rw [pairsD, lastN_app, ih]
    split
    · rw [lastN, lastN, if_neg (fun e => by
        have e' : ((bpos ps j : Nat) : Int) = bpos ps r := e
        have := bpos_inj h (r := j) (r' := r) (by omega) (by omega) (by omega)
        omega)]
    · rfl
theorem pairsD_at {rs : List IN} {ps : List (IN × Nat)} (h : ∀ p ∈ ps, 1 ≤ p.2) {r : Nat} (hr : askI rs r = true) : ∀ (m j : Nat) (v : Int), j ≤ r → r ≤ j + m → j + m ≤ ps.length → lastN (pairsD rs ps m j) (bpos ps r) v = rankI rs r
  | 0, j, v, h1, h2, h3 => by
    have e : j = r := by omega
    subst e
    rw [pairsD, if_pos hr, lastN, lastN, if_pos rfl]
  | m + 1, j, v, h1, h2, h3 => by
    rw [pairsD, lastN_app]
    by_cases e : j = r
    · subst e
      rw [if_pos hr, pairsD_none h m (j + 1) _ (by omega) (by omega), lastN, lastN, if_pos rfl]
    · exact pairsD_at h hr m (j + 1) _ (by omega) (by omega) (by omega)
theorem resD_cons {ps : List (IN × Nat)} {p : IN × Nat} {t : List (IN × Nat)} {j : Nat} {rt : List IN} (h : resD ps (p :: t) j = some rt) : ∃ x r, rt = x :: r ∧ resD ps t (j + 1) = some r ∧ ResAt ps j p x := by
  rw [resD] at h
  split at h
  · rename_i x r hx hr
    refine ⟨x, r, (Option.some.inj h).symm, hr, ?_⟩
    unfold ResAt
    split at hx
    · rename_i hj
      rw [if_pos hj]
      cases hb : findB ps ((bpos ps (j + 1) : Int) + p.1.arg) with
      | none => rw [hb] at hx; cases hx
      | some r =>
        rw [hb] at hx
        have e : (⟨p.1.op, r⟩ : IN) = x := Option.some.inj hx
        have := findB_ok hb
        exact ⟨r, this.1, e.symm, this.2⟩
    · rename_i hj
      rw [if_neg hj]
      exact (Option.some.inj hx).symm
  · cases h
/-- Led to: by where, by place. -/
theorem askPos_is {ps : List (IN × Nat)} (h : ∀ p ∈ ps, 1 ≤ p.2) {i : Nat} (hi : i ≤ ps.length) : ∀ (t : List (IN × Nat)) (j : Nat) (rt : List IN), resD ps t j = some rt → askPos ps t j (bpos ps i) = askI rt i
  | [], j, rt, hr => by
    have e : rt = [] := (Option.some.inj hr).symm
    subst e; rfl
  | p :: t, j, rt, hr => by
    obtain ⟨x, r, rfl, h1, h2⟩ := resD_cons hr
    have ih := askPos_is h hi t (j + 1) r h1
    rw [askPos, ih]
    show _ = ((isJ x && x.arg == (i : Int)) || askI r i)
    congr 1
    unfold ResAt at h2
    split at h2
    · rename_i hj
      obtain ⟨r0, g1, rfl, g2⟩ := h2
      show (isJ p.1 && _) = (isJ p.1 && ((r0 : Int) == (i : Int)))
      rw [hj, Bool.true_and, Bool.true_and, ← g2]
      rw [Bool.eq_iff_iff, beq_iff_eq, beq_iff_eq]
      constructor
      · intro e
        have := bpos_inj h g1 hi (by omega)
        omega
      · intro e
        have : r0 = i := by omega
        rw [this]
    · rename_i hj
      have hj' : isJ p.1 = false := by simpa using hj
      rw [h2, hj', Bool.false_and, Bool.false_and]
theorem dis_go {ps : List (IN × Nat)} {rs : List IN} (h : ∀ p ∈ ps, 1 ≤ p.2) (asked : Int → Bool) (hA : ∀ i, i ≤ ps.length → asked (bpos ps i) = askI rs i) (f : IN → IN)
    (hf1 : ∀ n, f ⟨38, n⟩ = ⟨38, n⟩) (hf2 : ∀ x, isJ x = false → f x = x) (hf3 : ∀ (op : Int) (r : Nat), isJ ⟨op, r⟩ = true → askI rs r = true → r ≤ ps.length → f ⟨op, bpos ps r⟩ = ⟨op, rankI rs r⟩) :
    ∀ (t : List (IN × Nat)) (a : List (IN × Nat)) (rt : List IN), ps = a ++ t → resD ps t a.length = some rt → (∀ x ∈ rt, x ∈ rs) →
      (disGo asked t (bpos ps a.length) (rankI rs a.length)).1.map f = bldGo rs rt a.length false ∧ (disGo asked t (bpos ps a.length) (rankI rs a.length)).2 = pairsD rs ps t.length a.length
  | [], a, rt, e, hr, hm => by
    have e2 : rt = [] := (Option.some.inj hr).symm
    subst e2
    rw [disGo, hA a.length (by rw [e]; simp), bldGo]
    show _ ∧ _ = pairsD rs ps 0 a.length
    rw [pairsD]
    by_cases ha : askI rs a.length = true
    · rw [if_pos ha, if_pos ⟨ha, rfl⟩, if_pos ha]
      exact ⟨by show [f _] = _; rw [hf1], rfl⟩
    · rw [if_neg ha, if_neg (fun hc => ha hc.1), if_neg ha]
      exact ⟨rfl, rfl⟩
  | p :: t, a, rt, e, hr, hm => by
    obtain ⟨x, r, rfl, h1, h2⟩ := resD_cons hr
    have hlen : a.length < ps.length := by rw [e, List.length_append, List.length_cons]; omega
    have hp : ps[a.length] = p := by
      have : ps[a.length]? = some p := by rw [e, List.getElem?_append_right (Nat.le_refl _)]; simp
      rw [List.getElem?_eq_getElem hlen] at this
      exact Option.some.inj this
    have hs : (bpos ps (a.length + 1) : Int) = (bpos ps a.length : Int) + p.2 := by
      rw [bpos_succ ps a.length hlen, hp]; omega
    have ih := dis_go h asked hA f hf1 hf2 hf3 t (a ++ [p]) r (by rw [e]; simp) (by rw [List.length_append, List.length_singleton]; exact h1) (fun y hy => hm y (List.mem_cons_of_mem _ hy))
    rw [List.length_append, List.length_singleton, hs] at ih
    have hx : f (if isJ p.1 = true then ⟨p.1.op, p.1.arg + ((bpos ps a.length : Int) + p.2)⟩ else p.1) = if isJ x = true then ⟨x.op, rankI rs x.arg.toNat⟩ else x := by
      unfold ResAt at h2
      split at h2
      · rename_i hj
        obtain ⟨r0, g1, g0, g2⟩ := h2
        have hjx : isJ x = true := by rw [g0]; exact hj
        have hask : askI rs r0 = true := List.any_eq_true.2 ⟨x, hm x (List.mem_cons_self ..), by rw [hjx, g0]; simp⟩
        rw [if_pos hj, if_pos hjx, show p.1.arg + ((bpos ps a.length : Int) + p.2) = (bpos ps r0 : Int) by omega, hf3 p.1.op r0 hj hask g1, g0]
        show _ = (⟨p.1.op, (rankI rs ((r0 : Int)).toNat : Int)⟩ : IN)
        rw [Int.toNat_natCast]
      · rename_i hj
        rw [if_neg hj, h2, if_neg hj]
        exact hf2 _ (by simpa using hj)
    rw [disGo, hA a.length (by omega), bld_cons, List.length_cons, pairsD]
    by_cases ha : askI rs a.length = true
    · rw [rankI, if_pos ha] at ih
      have e3 : ((rankI rs a.length + 1 : Nat) : Int) = (rankI rs a.length : Int) + 1 := by omega
      rw [e3] at ih
      simp only [ha, and_self, if_true, List.cons_append, List.nil_append]
      refine ⟨?_, ?_⟩
      · rw [List.map_cons, List.map_cons, hf1, hx, ih.1]
      · rw [ih.2]
    · rw [rankI, if_neg ha, Nat.add_zero] at ih
      have ha' : askI rs a.length = false := by simpa using ha
      simp only [ha', Bool.false_eq_true, false_and, if_false, List.nil_append]
      refine ⟨?_, ?_⟩
      · rw [List.map_cons, hx, ih.1]
      · rw [ih.2]
/-- The program's list is the built one. -/
theorem disB_is {ps : List (IN × Nat)} {rs : List IN} (hps : ∀ p ∈ ps, ItemOk p) (hr : resD ps ps 0 = some rs) : disB ps = buildN rs := by
  have h : ∀ p ∈ ps, 1 ≤ p.2 := fun p hp => by have := (hps p hp).2.2.1; omega
  have hA : ∀ i, i ≤ ps.length → askPos ps ps 0 (bpos ps i) = askI rs i := fun i hi => askPos_is h hi ps 0 rs hr
  have hb0 : bpos ps 0 = 0 := by cases ps <;> rfl
  have h0 := dis_go h (askPos ps ps 0) hA (setJ (pairsD rs ps ps.length 0)) (fun n => rfl) (fun x hx => by unfold setJ; rw [if_neg (by rw [hx]; decide)])
    (fun op r hj ha hr => by
      unfold setJ
      rw [if_pos (show isJ ⟨op, (bpos ps r : Int)⟩ = true from hj)]
      show (⟨op, lastN _ (bpos ps r) 0⟩ : IN) = _
      rw [pairsD_at h ha ps.length 0 0 (Nat.zero_le _) (by omega) (by omega)]) ps [] rs rfl hr (fun x hx => hx)
  have e1 : (bpos ps ([] : List (IN × Nat)).length : Int) = 0 := by
    show ((bpos ps 0 : Nat) : Int) = 0
    rw [hb0]; rfl
  rw [e1] at h0
  have h1 : (disGo (askPos ps ps 0) ps 0 0).1.map (setJ (pairsD rs ps ps.length 0)) = bldGo rs rs 0 false := h0.1
  have h2 : (disGo (askPos ps ps 0) ps 0 0).2 = pairsD rs ps ps.length 0 := h0.2
  unfold disB
  rw [h2, h1]
  rfl
end Go.Proofs.YtbcpopakdlplgaaDoor
namespace Go.Proofs.YtbcpopakdlplgaaDoor
set_option linter.unusedVariables false
set_option linter.unusedSimpArgs false

theorem stnd_first {a : Int} : ∀ (l : List IN) (i k : Nat) (h : k < l.length), isL l[k] = true → l[k].arg = a → stndGo a l i ≤ ((i + k : Nat) : Int)
  | x :: t, i, 0, h, h1, h2 => by
    have h1' : isL x = true := h1
    have h2' : x.arg = a := h2
    rw [stndGo, if_pos ⟨h1', h2'⟩]
    omega
  | x :: t, i, k + 1, h, h1, h2 => by
    have := stnd_first t (i + 1) k (by simpa using h) h1 h2
    rw [stndGo]
    split <;> omega
theorem stnd_none {a : Int} : ∀ (l : List IN) (i : Nat), 0 ≤ stndGo a l i → ∃ y ∈ l, isL y = true ∧ y.arg = a
  | [], i, h => by rw [stndGo] at h; exact absurd h (by decide)
  | x :: t, i, h => by
    rw [stndGo] at h
    split at h
    · rename_i hx
      exact ⟨x, List.mem_cons_self .., hx⟩
    · obtain ⟨y, hy, h1⟩ := stnd_none t (i + 1) h
      exact ⟨y, List.mem_cons_of_mem _ hy, h1⟩
/-- No label stands twice, and those that are asked for stand, as the law asks. -/
def LabelledP (l : List IN) : Prop := ∀ i (h : i < l.length), (isL l[i] = true → (i : Int) ≤ stndGo l[i].arg l 0) ∧ (isJ l[i] = true → 0 ≤ stndGo l[i].arg l 0)
theorem labelled_once {l : List IN} (h : LabelledP l) : OnceL l := by
  refine ⟨fun i j hi hj h1 h2 e => ?_, fun x hx hj => ?_⟩
  · have a1 := (h i hi).1 h1
    have a2 := (h j hj).1 h2
    have b1 := stnd_first l 0 i hi h1 rfl
    have b2 := stnd_first l 0 j hj h2 rfl
    rw [e] at a1 b1
    omega
  · obtain ⟨k, hk, rfl⟩ := List.getElem_of_mem hx
    exact stnd_none l 0 ((h k hk).2 hj)
/-- AsmNormal. -/
theorem normal_law {l : List IN} (h : LabelledP l) : normP l = normR l ∧ normP (normP l) = normP l := by
  have ho := labelled_once h
  refine ⟨norm_same l ho, ?_⟩
  have hr : RsOk (RL l) := by
    intro x hx
    obtain ⟨y, hy, rfl⟩ := List.mem_map.1 hx
    have hyL : isL y = false := by simpa using (List.mem_filter.1 hy).2
    have hym := (List.mem_filter.1 hy).1
    refine ⟨?_, fun hj => ?_⟩
    · unfold resL
      split
      · exact hyL
      · exact hyL
    · rw [resL_J] at hj
      obtain ⟨u, hu, huL, hua⟩ := ho.2 y hym hj
      obtain ⟨p, t, e⟩ := List.append_of_mem hu
      unfold resL
      rw [if_pos hj, RL_len]
      show (0 : Int) ≤ (idxOf y.arg l 0 : Int) ∧ (idxOf y.arg l 0 : Int) ≤ (ixN l : Int)
      rw [← hua, once_idx ho e huL]
      have : ixN p ≤ ixN l := by rw [e, ixN_app]; omega
      omega
  rw [norm_build ho, norm_of_build hr]
/-- How many bytes a distance has, as the reference says. -/
def fitR (n : Int) : Nat := if -32768 ≤ n ∧ n ≤ 32767 then needN n else 3
theorem fitR_far {l : List IN} {S : Nat → Nat} (hS : ∀ i, S i ≤ 2) (hl : l.length ≤ 10000) (k : Nat) (hk : k < l.length) : fitR (farL l S k) = needN (farL l S k) := by
  unfold fitR
  rw [if_pos (far_bd hS hl k hk)]
/-- A byte of a number that is two hundred and fifty-six times another off. -/
theorem by8_eq {a b : Int} (h : a % 256 = b % 256) : by8 a = by8 b := by unfold by8; rw [h]
theorem by8_hi (n : Int) : by8 ((n + 65536) / 256) = by8 (n / 256) := by8_eq (by omega)
theorem by8_lo (n : Int) : by8 ((n + 65536) % 256) = by8 n := by8_eq (by omega)
theorem by8_hi0 (n : Int) : by8 (n % 256) = by8 n := by8_eq (by omega)
/-- The reference's value of two bytes. -/
theorem wrap_two (c d : UInt8) : wrap16 (256 * (c.toNat : Int) + d.toNat) = sg8 c * 256 + d.toNat := by
  have h1 := UInt8.toNat_lt c
  have h2 := UInt8.toNat_lt d
  unfold wrap16 sg8
  split <;> omega
/-- The reference's wrap. -/
def wrapR (n : Int) : Int := if n.tmod 65536 < -32768 then n.tmod 65536 + 65536 else if 32767 < n.tmod 65536 then n.tmod 65536 - 65536 else n.tmod 65536
theorem wrapR_is (n : Int) : wrapR n = wrap16 n := by
  unfold wrapR wrap16
  have h := Int.tmod_eq_emod (a := n) (b := 65536)
  rw [h]
  split <;> (try split) <;> (try split) <;> omega
end Go.Proofs.YtbcpopakdlplgaaDoor
namespace Go.Proofs.YtbcpopakdlplgaaDoor
set_option linter.unusedVariables false
set_option linter.unusedSimpArgs false

/-- Instructions ahead of what is still read. -/
def preA (ps : List (IN × Nat)) : Int ⊕ List (IN × Nat) → Int ⊕ List (IN × Nat)
  | .inl e => .inl e
  | .inr r => .inr (ps ++ r)
theorem preA_nil (r : Int ⊕ List (IN × Nat)) : preA [] r = r := by cases r <;> rfl
theorem preA_app (a b : List (IN × Nat)) (r : Int ⊕ List (IN × Nat)) : preA a (preA b r) = preA (a ++ b) r := by cases r <;> simp [preA]
theorem dec_step_ok {f : Nat} {b : List UInt8} {x : IN} {k : Nat} (h : decI b = .inr (x, k)) : decAll (f + 1) b = preA [(x, k)] (decAll f (b.drop k)) := by
  cases b with
  | nil => simp [decI] at h
  | cons c t =>
    rw [decAll, h]
    simp only
    cases decAll f ((c :: t).drop k) <;> rfl
theorem dec_step_no {f : Nat} {b : List UInt8} {e : Int} (h : decI b = .inl e) (hb : 0 < b.length) : decAll (f + 1) b = .inl e := by
  cases b with
  | nil => simp at hb
  | cons c t => rw [decAll, h]
theorem decAll_nil (f : Nat) : decAll f [] = .inr [] := by cases f <;> rfl
/-- Where instructions end; where they begin. -/
def endsGo : List (IN × Nat) → Nat → List Int
  | [], _ => []
  | p :: t, a => ((a + p.2 : Nat) : Int) :: endsGo t (a + p.2)
def begsGo : List (IN × Nat) → Nat → List Int
  | [], _ => []
  | p :: t, a => (a : Int) :: begsGo t (a + p.2)
theorem bpos_snoc (ps : List (IN × Nat)) (p : IN × Nat) : bpos (ps ++ [p]) (ps ++ [p]).length = bpos ps ps.length + p.2 := by
  rw [List.length_append, List.length_singleton, bpos_succ _ _ (by simp), bpos_app]
  simp
theorem ends_snoc (p : IN × Nat) : ∀ (ps : List (IN × Nat)) (a : Nat), endsGo (ps ++ [p]) a = endsGo ps a ++ [((a + bpos ps ps.length + p.2 : Nat) : Int)]
  | [], a => rfl
  | q :: t, a => by
    rw [List.cons_append, endsGo, ends_snoc p t, endsGo, List.cons_append]
    have : bpos (q :: t) (q :: t).length = q.2 + bpos t t.length := rfl
    rw [this, show a + q.2 + bpos t t.length + p.2 = a + (q.2 + bpos t t.length) + p.2 by omega]
theorem begs_snoc (p : IN × Nat) : ∀ (ps : List (IN × Nat)) (a : Nat), begsGo (ps ++ [p]) a = begsGo ps a ++ [((a + bpos ps ps.length : Nat) : Int)]
  | [], a => rfl
  | q :: t, a => by
    rw [List.cons_append, begsGo, begs_snoc p t, begsGo, List.cons_append]
    have : bpos (q :: t) (q :: t).length = q.2 + bpos t t.length := rfl
    rw [this, show a + q.2 + bpos t t.length = a + (q.2 + bpos t t.length) by omega]
theorem ends_len : ∀ (ps : List (IN × Nat)) (a : Nat), (endsGo ps a).length = ps.length
  | [], _ => rfl
  | p :: t, a => by rw [endsGo, List.length_cons, ends_len t, List.length_cons]
theorem ends_at : ∀ (ps : List (IN × Nat)) (a i : Nat) (h : i < ps.length), (endsGo ps a)[i]'(by rw [ends_len]; exact h) = ((a + bpos ps (i + 1) : Nat) : Int)
  | [], _, _, h => by simp at h
  | p :: t, a, 0, h => by simp [endsGo, bpos]
  | p :: t, a, i + 1, h => by
    simp only [endsGo, List.getElem_cons_succ]
    rw [ends_at t (a + p.2) i (by simpa using h)]
    have : bpos (p :: t) (i + 1 + 1) = p.2 + bpos t (i + 1) := rfl
    rw [this]; congr 1; omega
theorem begs_mem : ∀ (ps : List (IN × Nat)) (a : Nat) (z : Int), z ∈ begsGo ps a ↔ ∃ r, r < ps.length ∧ z = ((a + bpos ps r : Nat) : Int)
  | [], a, z => by simp [begsGo]
  | p :: t, a, z => by
    rw [begsGo, List.mem_cons, begs_mem t]
    constructor
    · rintro (h | ⟨r, hr, h⟩)
      · exact ⟨0, by simp, by rw [h]; cases t <;> rfl⟩
      · exact ⟨r + 1, by simpa using hr, by rw [h]; show _ = ((a + (p.2 + bpos t r) : Nat) : Int); congr 1; omega⟩
    · rintro ⟨r, hr, h⟩
      cases r with
      | zero => exact .inl (by rw [h]; cases t <;> rfl)
      | succ r => exact .inr ⟨r, by simpa using hr, by rw [h]; show ((a + (p.2 + bpos t r) : Nat) : Int) = _; congr 1; omega⟩
/-- Does an instruction, or the end, stand at a place? -/
def begK (n : Nat) (ps : List (IN × Nat)) : Int → Bool := fun a => a == (n : Int) || (begsGo ps 0).contains a
theorem begK_snoc (n : Nat) (ps : List (IN × Nat)) (p : IN × Nat) (a : Int) : begK n (ps ++ [p]) a = if a = (bpos ps ps.length : Int) then true else begK n ps a := by
  unfold begK
  rw [begs_snoc, Nat.zero_add]
  by_cases h : a = (bpos ps ps.length : Int)
  · rw [if_pos h, h]; simp
  · rw [if_neg h]
    have : ((bpos ps ps.length : Int) == a) = false := by simp; exact fun e => h e.symm
    simp [List.contains_append, List.contains_cons, h]
theorem begK_find {ps : List (IN × Nat)} {tgt : Int} : begK (bpos ps ps.length) ps tgt = (findB ps tgt).isSome := by
  have hm : begK (bpos ps ps.length) ps tgt = true ↔ ∃ r, r ≤ ps.length ∧ tgt = (bpos ps r : Int) := by
    unfold begK
    rw [Bool.or_eq_true, beq_iff_eq, List.contains_iff_mem, begs_mem]
    constructor
    · rintro (h | ⟨r, h1, h2⟩)
      · exact ⟨_, Nat.le_refl _, h⟩
      · exact ⟨r, by omega, by rw [h2, Nat.zero_add]⟩
    · rintro ⟨r, h1, h2⟩
      by_cases e : r = ps.length
      · exact .inl (by rw [h2, e])
      · exact .inr ⟨r, by omega, by rw [h2, Nat.zero_add]⟩
  cases hf : findB ps tgt with
  | some r =>
    obtain ⟨h1, h2⟩ := findB_ok hf
    exact hm.2 ⟨r, h1, h2.symm⟩
  | none =>
    cases hb : begK (bpos ps ps.length) ps tgt with
    | false => rfl
    | true =>
      obtain ⟨r, h1, h2⟩ := hm.1 hb
      unfold findB at hf
      rw [List.find?_eq_none] at hf
      have := hf r (List.mem_range.2 (by omega))
      simp [h2] at this
/-- A jump's target. -/
def tgD (ps : List (IN × Nat)) (k : Nat) (p : IN × Nat) : Int := (bpos ps (k + 1) : Int) + p.1.arg
/-- Jumps lead to where something begins, or not. -/
theorem resD_some {ps : List (IN × Nat)} : ∀ (t : List (IN × Nat)) (j : Nat), (∀ i (h : i < t.length), isJ t[i].1 = true → (findB ps (tgD ps (j + i) t[i])).isSome = true) → ∃ rs, resD ps t j = some rs
  | [], j, _ => ⟨[], rfl⟩
  | p :: t, j, h => by
    obtain ⟨r, hr⟩ := resD_some t (j + 1) (fun i hi hj => by
      have := h (i + 1) (by simpa using hi) hj
      rw [show j + (i + 1) = j + 1 + i by omega] at this
      exact this)
    rw [resD, hr]
    by_cases hj : isJ p.1 = true
    · have := h 0 (by simp) hj
      rw [if_pos hj]
      have e : findB ps ((bpos ps (j + 1) : Int) + p.1.arg) = findB ps (tgD ps (j + 0) p) := rfl
      rw [e]
      simp only [List.getElem_cons_zero] at this
      cases hf : findB ps (tgD ps (j + 0) p) with
      | none => rw [hf] at this; cases this
      | some q => exact ⟨_, rfl⟩
    · rw [if_neg hj]; exact ⟨_, rfl⟩
theorem resD_none {ps : List (IN × Nat)} : ∀ (t : List (IN × Nat)) (j i : Nat) (h : i < t.length), isJ t[i].1 = true → findB ps (tgD ps (j + i) t[i]) = none → resD ps t j = none
  | [], j, i, h, _, _ => by simp at h
  | p :: t, j, 0, h, hj, hf => by
    have hj' : isJ p.1 = true := hj
    have hf' : findB ps ((bpos ps (j + 1) : Int) + p.1.arg) = none := hf
    rw [resD, if_pos hj', hf']; rfl
  | p :: t, j, i + 1, h, hj, hf => by
    have ih := resD_none (ps := ps) t (j + 1) i (by simpa using h) hj (by rw [show j + 1 + i = j + (i + 1) by omega]; exact hf)
    rw [resD, ih]
    split
    · rename_i h2; cases h2
    · rfl
theorem askPos_snoc (ps : List (IN × Nat)) (p : IN × Nat) (pos : Int) : ∀ (t : List (IN × Nat)) (j : Nat), askPos ps (t ++ [p]) j pos = (askPos ps t j pos || (isJ p.1 && tgD ps (j + t.length) p == pos))
  | [], j => by simp [askPos, tgD]
  | q :: t, j => by
    rw [List.cons_append, askPos, askPos_snoc ps p pos t, askPos, List.length_cons, show j + (t.length + 1) = j + 1 + t.length by omega, Bool.or_assoc]
def askD (ps : List (IN × Nat)) (k : Nat) : Int → Bool := fun a => askPos ps (ps.take k) 0 a
theorem askD_no {ps : List (IN × Nat)} {k : Nat} (h : k < ps.length) (hj : isJ ps[k].1 = false) (a : Int) : askD ps (k + 1) a = askD ps k a := by
  unfold askD; rw [List.take_succ_eq_append_getElem h, askPos_snoc, hj]; simp
theorem askD_yes {ps : List (IN × Nat)} {k : Nat} (h : k < ps.length) (hj : isJ ps[k].1 = true) (a : Int) : askD ps (k + 1) a = if a = tgD ps k ps[k] then true else askD ps k a := by
  unfold askD; rw [List.take_succ_eq_append_getElem h, askPos_snoc, hj, List.length_take, Nat.min_eq_left (by omega), Nat.zero_add]
  by_cases e : a = tgD ps k ps[k]
  · rw [if_pos e, e]; simp
  · rw [if_neg e]
    have : (tgD ps k ps[k] == a) = false := by simp; exact fun h => e h.symm
    simp [this]
/-- A label, if one is asked for. -/
def labD (A : Int → Bool) (pos : Int) (s : List IN × List (Int × Int)) : List IN × List (Int × Int) := if A pos = true then (s.1 ++ [⟨38, (s.2.length : Int)⟩], s.2 ++ [(pos, (s.2.length : Int))]) else s
def xD (p : IN × Nat) (e : Int) : IN := if isJ p.1 = true then ⟨p.1.op, p.1.arg + e⟩ else p.1
def DisEq (ps : List (IN × Nat)) (k : Nat) (s : List IN × List (Int × Int)) : Prop :=
  (s.1 ++ (disGo (askPos ps ps 0) (ps.drop k) (bpos ps k) s.2.length).1, s.2 ++ (disGo (askPos ps ps 0) (ps.drop k) (bpos ps k) s.2.length).2) = disGo (askPos ps ps 0) ps 0 0
theorem disEq_zero (ps : List (IN × Nat)) : DisEq ps 0 ([], []) := by
  unfold DisEq
  have : bpos ps 0 = 0 := by cases ps <;> rfl
  simp [this]
theorem disEq_step {ps : List (IN × Nat)} {k : Nat} {s : List IN × List (Int × Int)} (hk : k < ps.length) (h : DisEq ps k s) :
    DisEq ps (k + 1) ((labD (askPos ps ps 0) (bpos ps k) s).1 ++ [xD ps[k] (bpos ps (k + 1))], (labD (askPos ps ps 0) (bpos ps k) s).2) := by
  unfold DisEq at *
  rw [List.drop_eq_getElem_cons hk, disGo] at h
  have e : (bpos ps k : Int) + (ps[k].2 : Int) = (bpos ps (k + 1) : Int) := by rw [bpos_succ ps k hk]; omega
  rw [e] at h
  unfold labD xD
  split
  · rename_i hA
    rw [if_pos hA] at h
    simp only at h ⊢
    rw [← h]
    simp
  · rename_i hA
    rw [if_neg hA] at h
    simp only at h ⊢
    rw [← h]
    simp
theorem disEq_end {ps : List (IN × Nat)} {s : List IN × List (Int × Int)} (h : DisEq ps ps.length s) : labD (askPos ps ps 0) (bpos ps ps.length) s = disGo (askPos ps ps 0) ps 0 0 := by
  unfold DisEq at h
  rw [List.drop_of_length_le (Nat.le_refl _), disGo] at h
  rw [← h]
  unfold labD
  by_cases hA : askPos ps ps 0 (bpos ps ps.length) = true
  · rw [if_pos hA, if_pos hA]
  · rw [if_neg hA, if_neg hA]; simp
/-- Keys lie ahead. -/
def KeysLt (qs : List (Int × Int)) (p : Int) : Prop := (qs.map (·.1)).Nodup ∧ ∀ q ∈ qs.map (·.1), q < p
theorem keys_lab {A : Int → Bool} {pos e : Int} {s : List IN × List (Int × Int)} (h : KeysLt s.2 pos) (he : pos < e) : KeysLt (labD A pos s).2 e := by
  unfold labD
  split
  · refine ⟨?_, fun q hq => ?_⟩
    · simp only [List.map_append, List.map_cons, List.map_nil]
      rw [List.nodup_append]
      refine ⟨h.1, by simp, fun a ha b hb => ?_⟩
      simp at hb
      have := h.2 a ha
      omega
    · simp only [List.map_append, List.map_cons, List.map_nil, List.mem_append, List.mem_singleton] at hq
      rcases hq with hq | hq
      · have := h.2 q hq; omega
      · omega
  · exact ⟨h.1, fun q hq => by have := h.2 q hq; omega⟩
theorem lab_len1 (A : Int → Bool) (pos : Int) (s : List IN × List (Int × Int)) : (labD A pos s).1.length ≤ s.1.length + 1 ∧ (labD A pos s).2.length ≤ s.2.length + 1 := by
  unfold labD; split <;> simp
theorem disP_err {n : Nat} {b : List UInt8} {e : Int} (h : decAll b.length b = .inl e) : disP b = .inl e := by unfold disP; rw [h]
theorem disP_bad {b : List UInt8} {ps : List (IN × Nat)} (h : decAll b.length b = .inr ps) (hr : resD ps ps 0 = none) : disP b = .inl 5 := by unfold disP; rw [h]; simp only [hr]
theorem disP_good {b : List UInt8} {ps : List (IN × Nat)} {rs : List IN} (h : decAll b.length b = .inr ps) (hr : resD ps ps 0 = some rs) : disP b = .inr (disB ps) := by
  unfold disP; rw [h]; simp only [hr]
  rw [disB_is (decAll_ok _ _ _ h).1 hr]
end Go.Proofs.YtbcpopakdlplgaaDoor
namespace Go.Proofs.YtbcpopakdlplgaaDoor
set_option linter.unusedVariables false
set_option linter.unusedSimpArgs false

def exL : List IN := [⟨1, 1⟩, ⟨24, 7⟩, ⟨2, 0⟩, ⟨38, 7⟩, ⟨28, 0⟩]
def exS : Nat → Nat := fun i => if i = 1 then 1 else 0
theorem ex_grow0 (k : Nat) (hk : k ≠ 1) (h : k < 5) : growK (fun x => (encI x).length) (atI exL) (tgtN exL) (fun _ => 0) k = fun _ => 0 := by
  have h5 : k = 0 ∨ k = 2 ∨ k = 3 ∨ k = 4 := by omega
  rcases h5 with rfl | rfl | rfl | rfl <;> (unfold growK; rw [if_neg (by decide +kernel)])
theorem ex_grow1 : growK (fun x => (encI x).length) (atI exL) (tgtN exL) (fun _ => 0) 1 = exS := by
  unfold growK
  rw [if_pos (by decide +kernel)]
  funext i
  unfold exS
  by_cases e : i = 1
  · subst e; rw [if_pos rfl, if_pos rfl]; decide +kernel
  · rw [if_neg e, if_neg e]
theorem ex_growS (k : Nat) (h : k < 5) : growK (fun x => (encI x).length) (atI exL) (tgtN exL) exS k = exS := by
  have h5 : k = 0 ∨ k = 1 ∨ k = 2 ∨ k = 3 ∨ k = 4 := by omega
  rcases h5 with rfl | rfl | rfl | rfl | rfl <;> (unfold growK; rw [if_neg (by decide +kernel)])
theorem ex_sweep0 : sweepL exL (fun _ => 0) = exS := by
  show sweepN _ _ _ 5 _ = _
  simp only [sweepN]
  rw [ex_grow0 0 (by decide) (by decide), ex_grow1, ex_growS 2 (by decide), ex_growS 3 (by decide), ex_growS 4 (by decide)]
theorem ex_sweepS : sweepL exL exS = exS := by
  show sweepN _ _ _ 5 _ = _
  simp only [sweepN]
  rw [ex_growS 0 (by decide), ex_growS 1 (by decide), ex_growS 2 (by decide), ex_growS 3 (by decide), ex_growS 4 (by decide)]
theorem ex_sz : AsmSz exL exS := by
  have h := way_sweep (way_zero exL)
  rw [ex_sweep0] at h
  exact way_end h ex_sweepS
theorem ex_wrong : wrongP exL = 0 := by decide +kernel
theorem ex_asm : asmP exL = .inr [5, 1, 97, 1, 8, 112] := by
  rw [asmP_sz ex_sz ex_wrong]
  congr 1
theorem ex_norm : normP exL = [⟨1, 1⟩, ⟨24, 0⟩, ⟨2, 0⟩, ⟨38, 0⟩, ⟨28, 0⟩] := by decide +kernel
theorem ex_dis : disP [5, 1, 97, 1, 8, 112] = .inr (normP exL) := back_law (by decide) ex_asm
end Go.Proofs.YtbcpopakdlplgaaDoor
