/- Plain law of NounBehind: words behind those used play no part.; What NounBehind keeps between two rounds: the boxes, and two rows of words that grow.; The walk of NounBehind. -/
import Derived.Test.YtjggklfegcejhaaNounOne
import Derived.Test.YtjggklfegcejhaaDictCap
import Derived.Test.YtjggklfegcejhaaLawA36
namespace Go.Proofs.Ytjggklfegcejhaa
set_option linter.unusedVariables false
set_option linter.unusedSimpArgs false

def starK : TxC := [42, 42, 42]
theorem art_cut {ks : List TxC} {m : Nat} (h0 : 0 < ks.length) (h1 : 0 < m) : artN (ks.take m ++ [starK]) = artN ks := by
  obtain ⟨k, r, rfl⟩ : ∃ k r, ks = k :: r := by cases ks with | nil => simp at h0 | cons k r => exact ⟨k, r, rfl⟩
  obtain ⟨n, rfl⟩ : ∃ n, m = n + 1 := ⟨m - 1, by omega⟩
  rfl
theorem drop_cut {ks : List TxC} {a m : Nat} (h : a ≤ m) (hl : a ≤ ks.length) : (ks.take m ++ [starK]).drop a = (ks.drop a).take (m - a) ++ [starK] := by
  rw [List.drop_append_of_le_length (by rw [List.length_take]; omega), List.drop_take]
theorem tw_take {p : TxC → Bool} : ∀ (d : List TxC) (n : Nat), (d.takeWhile p).length ≤ n → p starK = false → ((d.take n ++ [starK]).takeWhile p).length = (d.takeWhile p).length ∧ (d.take n ++ [starK]).take (d.takeWhile p).length = d.take (d.takeWhile p).length
  | [], n, _, hs => by simp [List.takeWhile_cons, hs]
  | k :: r, 0, h, hs => by
    have h0 : ((k :: r).takeWhile p).length = 0 := by omega
    rw [h0]
    simp [List.takeWhile_cons, hs]
  | k :: r, n + 1, h, hs => by
    cases hk : p k with
    | false => simp [List.takeWhile_cons, hk]
    | true =>
      rw [List.takeWhile_cons, hk] at h ⊢
      simp only [if_true, List.length_cons] at h ⊢
      obtain ⟨h1, h2⟩ := tw_take r n (by omega) hs
      simp only [List.take_succ_cons, List.cons_append, List.takeWhile_cons, hk, if_true, List.length_cons, h1, h2, and_self]
theorem one_pos {t : TbC} {seen : List Int} {sit : Bool} {it x : Int} {u : Nat} {ks : List TxC} (h : oneN t seen sit it ks = (x, u, 0)) : 0 < u ∧ u ≤ ks.length ∧ artN ks < u := by
  have h9 := one_used t seen sit it ks
  rw [h] at h9
  refine ⟨?_, h9, ?_⟩
  all_goals
    unfold oneN at h
    cases hd : ks.drop (artN ks) with
    | nil => rw [hd] at h; simp at h
    | cons k r =>
      rw [hd] at h
      simp only at h
      split at h
      · split at h <;> simp at h <;> omega
      · split at h
        · simp at h
        · have h2 := congrArg (fun z => z.2.1) h
          rw [res_used] at h2
          simp only at h2
          omega
theorem one_cut {t : TbC} {seen : List Int} {sit : Bool} {it x : Int} {u m : Nat} {ks : List TxC} (h : oneN t seen sit it ks = (x, u, 0)) (hm : u ≤ m) (hs : knownN t seen starK = false) : oneN t seen sit it (ks.take m ++ [starK]) = (x, u, 0) := by
  obtain ⟨h1, h2, h3⟩ := one_pos h
  have ha := art_le ks
  have e1 := art_cut (ks := ks) (m := m) (by omega) (by omega)
  have e2 := drop_cut (ks := ks) (a := artN ks) (m := m) (by omega) ha
  unfold oneN at h ⊢
  rw [e1, e2]
  cases hd : ks.drop (artN ks) with
  | nil => rw [hd] at h; simp at h
  | cons k r =>
    rw [hd] at h
    simp only at h
    obtain ⟨n, hn⟩ : ∃ n, m - artN ks = n + 1 := ⟨m - artN ks - 1, by omega⟩
    rw [hn]
    have e3 : (k :: r).take (n + 1) ++ [starK] = k :: (r.take n ++ [starK]) := rfl
    have hk : ((k :: r).takeWhile (knownN t seen)).length ≤ n + 1 ∨ k = itK := by
      by_cases hi : k = itK
      · exact .inr hi
      · left
        rw [if_neg hi] at h
        split at h
        · simp at h
        · have h4 := congrArg (fun z => z.2.1) h
          rw [res_used] at h4
          simp only at h4
          omega
    split at h
    case isTrue hi =>
      rw [e3]
      simp only [if_pos hi]
      exact h
    case isFalse hi =>
      obtain ⟨g1, g2⟩ := tw_take (k :: r) (n + 1) (hk.resolve_right hi) hs
      rw [e3] at g1 g2 ⊢
      simp only [if_neg hi, g1, g2]
      exact h
/-- Words behind those used play no part. -/
def Cut (one : List TxC → Int × Nat × Int) : Prop := ∀ ks x u, one ks = (x, u, 0) → 0 < u ∧ u ≤ ks.length ∧ ∀ m, u ≤ m → one (ks.take m ++ [starK]) = (x, u, 0)
theorem cut_one {t : TbC} {seen : List Int} {sit : Bool} {it : Int} (hs : knownN t seen starK = false) : Cut (oneN t seen sit it) := fun ks x u h =>
  ⟨(one_pos h).1, (one_pos h).2.1, fun m hm => one_cut h hm hs⟩
theorem list_cut {one : List TxC → Int × Nat × Int} (hc : Cut one) (ks : List TxC) : ∀ (f u : Nat) (l : List Int), (listN one ks f u l).er = 0 → u ≤ ks.length → ks.length + 1 ≤ f + u →
    u < (listN one ks f u l).us ∧ (listN one ks f u l).us ≤ ks.length ∧ ∀ f', (listN one ks f u l).us + 2 ≤ f' + u → listN one (ks.take (listN one ks f u l).us ++ [starK]) f' u l = listN one ks f u l
  | 0, u, l, _, hu, hf => by omega
  | f + 1, u, l, he, hu, hf => by
    obtain ⟨⟨x, v, r3⟩, hr⟩ : ∃ r, one (ks.drop u) = r := ⟨_, rfl⟩
    by_cases h3 : r3 = 0
    · subst h3
      obtain ⟨c1, c2, c3⟩ := hc _ _ _ hr
      rw [List.length_drop] at c2
      by_cases hg : u + v + 1 < ks.length ∧ andL.contains (ks.getD (u + v) []) = true
      · have e : listN one ks (f + 1) u l = listN one ks f (u + v + 1) (addN l x) := by
          simp only [listN, hr, if_true, if_pos hg]
        rw [e] at he ⊢
        obtain ⟨i1, i2, i3⟩ := list_cut hc ks f (u + v + 1) (addN l x) he (by omega) (by omega)
        refine ⟨by omega, i2, fun f' hf' => ?_⟩
        obtain ⟨g, rfl⟩ : ∃ g, f' = g + 1 := ⟨f' - 1, by omega⟩
        have e2 := drop_cut (ks := ks) (a := u) (m := (listN one ks f (u + v + 1) (addN l x)).us) (by omega) hu
        have e3 := c3 ((listN one ks f (u + v + 1) (addN l x)).us - u) (by omega)
        have e4 := i3 g (by omega)
        generalize listN one ks f (u + v + 1) (addN l x) = p at *
        have e5 : (ks.take p.us ++ [starK]).getD (u + v) [] = ks.getD (u + v) [] := by
          rw [List.getD_eq_getElem?_getD, List.getD_eq_getElem?_getD, List.getElem?_append_left (by rw [List.length_take]; omega), List.getElem?_take_of_lt (by omega)]
        have e6 : (ks.take p.us ++ [starK]).length = p.us + 1 := by rw [List.length_append, List.length_take, List.length_singleton]; omega
        rw [listN]
        simp only [e2, e3, if_true, e5, e6]
        rw [if_pos ⟨by omega, hg.2⟩]
        exact e4
      · have e : listN one ks (f + 1) u l = ⟨addN l x, u + v, 0⟩ := by
          simp only [listN, hr, if_true, if_neg hg]
        rw [e]
        refine ⟨by show u < u + v; omega, by show u + v ≤ _; omega, fun f' hf' => ?_⟩
        have hf2 : u + v + 2 ≤ f' + u := hf'
        obtain ⟨g, rfl⟩ : ∃ g, f' = g + 1 := ⟨f' - 1, by omega⟩
        have e2 := drop_cut (ks := ks) (a := u) (m := u + v) (by omega) hu
        have e3 := c3 (u + v - u) (by omega)
        have e6 : (ks.take (u + v) ++ [starK]).length = u + v + 1 := by rw [List.length_append, List.length_take, List.length_singleton]; omega
        show listN one (ks.take (u + v) ++ [starK]) (g + 1) u l = _
        rw [listN]
        simp only [e2, e3, if_true, e6]
        rw [if_neg (fun h => by have := h.1; omega)]
    · exfalso
      have e : listN one ks (f + 1) u l = ⟨[], u + v, r3⟩ := by
        simp only [listN, hr, if_neg h3]
      rw [e] at he
      exact h3 he
theorem item_cut {one : List TxC → Int × Nat × Int} (hc : Cut one) (ks : List TxC) (he : (itemN (one ks)).er = 0) : (itemN (one ks)).us ≤ ks.length ∧ itemN (one (ks.take (itemN (one ks)).us ++ [starK])) = itemN (one ks) := by
  obtain ⟨⟨x, v, r3⟩, hr⟩ : ∃ r, one ks = r := ⟨_, rfl⟩
  rw [hr] at he ⊢
  by_cases h3 : r3 = 0
  · subst h3
    obtain ⟨c1, c2, c3⟩ := hc _ _ _ hr
    have e : itemN (x, v, 0) = ⟨[x], v, 0⟩ := rfl
    rw [e]
    refine ⟨c2, ?_⟩
    show itemN (one (ks.take v ++ [starK])) = _
    rw [c3 v (Nat.le_refl _)]; rfl
  · exfalso
    have e : itemN (x, v, r3) = ⟨[], v, r3⟩ := by unfold itemN; simp [h3]
    rw [e] at he
    exact h3 he
theorem star_no : andL.contains starK = false ∧ allL.contains starK = false ∧ butL.contains starK = false := by decide
theorem many_cut {one : List TxC → Int × Nat × Int} (hc : Cut one) (vis car : List Int) (ks : List TxC) (he : (manyN one vis car ks).er = 0) :
    (manyN one vis car ks).us ≤ ks.length ∧ manyN one vis car (ks.take (manyN one vis car ks).us ++ [starK]) = manyN one vis car ks := by
  have lst : ∀ l : List TxC, (listN one l (l.length + 1) 0 []).er = 0 → 0 < (listN one l (l.length + 1) 0 []).us ∧ (listN one l (l.length + 1) 0 []).us ≤ l.length ∧
      listN one (l.take (listN one l (l.length + 1) 0 []).us ++ [starK]) ((l.take (listN one l (l.length + 1) 0 []).us ++ [starK]).length + 1) 0 [] = listN one l (l.length + 1) 0 [] := fun l hl => by
    obtain ⟨h1, h2, h3⟩ := list_cut hc l (l.length + 1) 0 [] hl (Nat.zero_le _) (by omega)
    refine ⟨h1, h2, h3 _ ?_⟩
    rw [List.length_append, List.length_take, List.length_singleton]; omega
  cases ks with
  | nil =>
    exfalso
    have e : manyN one vis car [] = listN one [] 1 0 [] := rfl
    rw [e] at he
    obtain ⟨h1, h2, _⟩ := lst [] he
    have : (listN one [] ([] : List TxC).length.succ 0 []).us ≤ 0 := h2
    have h1' : 0 < (listN one [] ([] : List TxC).length.succ 0 []).us := h1
    omega
  | cons k r =>
    cases ha : allL.contains k with
    | false =>
      have e : ∀ q, manyN one vis car (k :: q) = listN one (k :: q) ((k :: q).length + 1) 0 [] := fun q => by
        simp only [manyN, ha, Bool.false_eq_true, if_false]
      rw [e r] at he ⊢
      obtain ⟨h1, h2, h3⟩ := lst (k :: r) he
      refine ⟨h2, ?_⟩
      generalize listN one (k :: r) ((k :: r).length + 1) 0 [] = p at *
      obtain ⟨n, hn⟩ : ∃ n, p.us = n + 1 := ⟨p.us - 1, by omega⟩
      rw [hn] at h3 ⊢
      have e2 : (k :: r).take (n + 1) ++ [starK] = k :: (r.take n ++ [starK]) := rfl
      rw [e2] at h3 ⊢
      rw [e, h3]
    | true =>
      have e1 : manyN one vis car [k, starK] = if leftN vis car [] = [] then ⟨[], 1, 11⟩ else ⟨leftN vis car [], 1, 0⟩ := by
        simp only [manyN, ha, if_true, star_no.2.2, Bool.false_eq_true, if_false]
      have plain : ∀ p : PhC, p = (if leftN vis car [] = [] then ⟨[], 1, 11⟩ else ⟨leftN vis car [], 1, 0⟩) → p.er = 0 → p.us ≤ (k :: r).length ∧ manyN one vis car ((k :: r).take p.us ++ [starK]) = p := fun p hp hpe => by
        have hu : p.us = 1 := by rw [hp]; split <;> rfl
        rw [hu]
        refine ⟨by simp, ?_⟩
        have e2 : (k :: r).take 1 ++ [starK] = [k, starK] := rfl
        rw [e2, e1, hp]
      cases r with
      | nil => exact plain _ (by simp only [manyN, ha, if_true]) he
      | cons b q =>
        cases hb : butL.contains b with
        | false => exact plain _ (by simp only [manyN, ha, if_true, hb, Bool.false_eq_true, if_false]) he
        | true =>
          have e : ∀ z, manyN one vis car (k :: b :: z) = if (listN one z (z.length + 1) 0 []).er = 0 then (if leftN vis car (listN one z (z.length + 1) 0 []).th = [] then ⟨[], 2 + (listN one z (z.length + 1) 0 []).us, 11⟩ else ⟨leftN vis car (listN one z (z.length + 1) 0 []).th, 2 + (listN one z (z.length + 1) 0 []).us, 0⟩)
              else ⟨[], 2 + (listN one z (z.length + 1) 0 []).us, (listN one z (z.length + 1) 0 []).er⟩ := fun z => by
            simp only [manyN, ha, if_true, hb]
          rw [e q] at he ⊢
          by_cases hz : (listN one q (q.length + 1) 0 []).er = 0
          · obtain ⟨h1, h2, h3⟩ := lst q hz
            rw [if_pos hz] at he ⊢
            have hu : (if leftN vis car (listN one q (q.length + 1) 0 []).th = [] then (⟨[], 2 + (listN one q (q.length + 1) 0 []).us, 11⟩ : PhC) else ⟨leftN vis car (listN one q (q.length + 1) 0 []).th, 2 + (listN one q (q.length + 1) 0 []).us, 0⟩).us = 2 + (listN one q (q.length + 1) 0 []).us := by split <;> rfl
            rw [hu]
            refine ⟨by simp only [List.length_cons]; omega, ?_⟩
            have e2 : ∀ n, (k :: b :: q).take (2 + n) ++ [starK] = k :: b :: (q.take n ++ [starK]) := fun n => by rw [Nat.add_comm 2 n]; rfl
            rw [e2, e, h3, if_pos hz]
          · exfalso
            rw [if_neg hz] at he
            exact hz he
/-- Whatever comes of words, it comes of those alone that were used. -/
theorem parse_cut {one : List TxC → Int × Nat × Int} (hc : Cut one) (vis car : List Int) (ks : List TxC) (many : Bool) (he : (parseN one vis car ks many).er = 0) :
    (parseN one vis car ks many).us ≤ ks.length ∧ parseN one vis car (ks.take (parseN one vis car ks many).us ++ [starK]) many = parseN one vis car ks many := by
  cases many with
  | false => exact item_cut hc ks he
  | true => exact many_cut hc vis car ks he
/-! ### Great letters -/
def upU (c : UInt8) : UInt8 := if smallB (c.toNat : Int) = true then c - 32 else c
def upL (l : TxC) : TxC := l.map upU
theorem low_up (c : UInt8) : lowU (upU c) = lowU c := by
  unfold upU
  by_cases h : smallB (c.toNat : Int) = true
  · rw [if_pos h, cap_low h]
    refine (lowU_other ?_).symm
    simp only [smallB, greatB, decide_eq_true_eq, decide_eq_false_iff_not] at h ⊢
    omega
  · rw [if_neg h]
theorem up_key (l : TxC) : keyW (upL l) = keyW l := by
  unfold keyW upL
  rw [List.map_map]
  congr 1
  exact List.map_congr_left (fun c _ => low_up c)
theorem up_keys (ws : List TxC) : (ws.map upL).map keyW = ws.map keyW := by
  rw [List.map_map]
  exact List.map_congr_left (fun l _ => up_key l)
theorem star_bad : ¬ WordOk starK := fun h => by
  have := h.2.2.1 42 (by simp [starK])
  rcases this with h | h <;> simp [smallB, digitB] at h
theorem star_unknown {t : TbC} {seen : List Int} (h : ∀ y ∈ t.th, (∀ s ∈ y.wd, WordOk s) ∧ (∀ s ∈ y.ad, WordOk s)) : knownN t seen starK = false := by
  unfold knownN
  rw [List.any_eq_false]
  intro x hx
  unfold hasX
  split
  case h_1 y hy =>
    have hm := List.mem_of_getElem? hy
    have h1 : y.wd.contains starK = false := by
      rw [← Bool.not_eq_true, List.contains_iff_mem]; exact fun hc => star_bad ((h y hm).1 _ hc)
    have h2 : y.ad.contains starK = false := by
      rw [← Bool.not_eq_true, List.contains_iff_mem]; exact fun hc => star_bad ((h y hm).2 _ hc)
    unfold hasT
    rw [h1, h2]; simp
  case h_2 => simp
end Go.Proofs.Ytjggklfegcejhaa
namespace Go.Proofs.Ytjggklfegcejhaa
open Go.RowKit Go.PlainAid Go.Deep
set_option linter.unusedVariables false
set_option linter.unusedSimpArgs false

theorem info_strB : (Try.prog.info? 9).map (fun i => (i.zero, i.size, i.bytes)) = some (some (.string ⟨#[]⟩), 1, 16) := by kernel_rfl
structure BSt (x : TAd) (t : TbC) (q : Wv) (w W2 wr : World) (vm vg : Value) (ws : List TxC) (i j : Nat) : Prop where
  two : Two x t q w wr
  om : wr.ownsRow W2.heap.size 9 1 vm i ((ws.take i).map strC)
  og : wr.ownsRow W2.heap.size 9 1 vg j (((ws.take j).map upL).map strC)
  dis : ∀ b, vm.ownBlock = some b → vg.ownBlock ≠ some b
  hb : w.heap.size + 1 < W2.heap.size
  hW : W2.heap.size ≤ wr.heap.size
theorem BSt.below {x : TAd} {t : TbC} {q : Wv} {w W2 wr w' : World} {vm vg : Value} {ws : List TxC} {i j : Nat} (h : BSt x t q w W2 wr vm vg ws i j) (hb : Below wr.heap.size wr w') : BSt x t q w W2 w' vm vg ws i j :=
  ⟨h.two.below hb, ow_below h.om hb, ow_below h.og hb, h.dis, h.hb, Nat.le_trans h.hW hb.size⟩
theorem BSt.start {x : TAd} {t : TbC} {q : Wv} {w W2 : World} (h : Two x t q w W2) (ws : List TxC) : BSt x t q w W2 W2 (.slice none 0 0) (.slice none 0 0) ws 0 0 :=
  ⟨h, World.ownsRow_nil _ _ _ _, World.ownsRow_nil _ _ _ _, (fun b hb => by cases hb), h.bw.lt, Nat.le_refl _⟩
theorem take_snoc {ws : List TxC} {i : Nat} (hi : i < ws.length) : ws.take (i + 1) = ws.take i ++ [ws[i]] := List.take_succ_eq_append_getElem hi
theorem BSt.addM {x : TAd} {t : TbC} {q : Wv} {w W2 wr w3 : World} {vm vg v3 : Value} {ws : List TxC} {i j : Nat} (h : BSt x t q w W2 wr vm vg ws i j) (hi : i < ws.length) (hg : wr.grownBy w3 vm.ownBlock)
    (ho : w3.ownsRow W2.heap.size 9 1 v3 (i + 1) ((ws.take i).map strC ++ [strC ws[i]])) (hl : v3.ownBlock = vm.ownBlock ∨ ∀ b, v3.ownBlock = some b → wr.heap.size ≤ b) : BSt x t q w W2 w3 v3 vg ws (i + 1) j := by
  have hlo : ∀ k, vm.ownBlock = some k → W2.heap.size ≤ k := fun k hk => ow_lo h.om k hk
  have hb := h.hb
  have hW := h.hW
  refine ⟨⟨h.two.bt.kept hg (fun k hk => by have := hlo k hk; omega), h.two.bw.kept hg (fun k hk => by have := hlo k hk; omega), bl_g h.two.bl hg (fun k hk => by have := hlo k hk; omega)⟩, ?_, ?_, fun b hb2 => ?_, hb, Nat.le_trans hW hg.size⟩
  · rw [take_snoc hi, List.map_append]; exact ho
  · refine h.og.kept hg ?_
    cases hv : vg.ownBlock with
    | none => exact .inl rfl
    | some b => exact .inr (fun e => h.dis b e.symm hv)
  · rcases hl with hl | hl
    · exact h.dis b (by rw [← hl]; exact hb2)
    · intro e
      have := hl b hb2
      have := (h.og.lt b e).2
      omega
theorem BSt.addG {x : TAd} {t : TbC} {q : Wv} {w W2 wr w3 : World} {vm vg v3 : Value} {ws : List TxC} {i j : Nat} (h : BSt x t q w W2 wr vm vg ws i j) (hj : j < ws.length) (hg : wr.grownBy w3 vg.ownBlock)
    (ho : w3.ownsRow W2.heap.size 9 1 v3 (j + 1) (((ws.take j).map upL).map strC ++ [strC (upL ws[j])])) (hl : v3.ownBlock = vg.ownBlock ∨ ∀ b, v3.ownBlock = some b → wr.heap.size ≤ b) : BSt x t q w W2 w3 vm v3 ws i (j + 1) := by
  have hlo : ∀ k, vg.ownBlock = some k → W2.heap.size ≤ k := fun k hk => ow_lo h.og k hk
  have hb := h.hb
  have hW := h.hW
  refine ⟨⟨h.two.bt.kept hg (fun k hk => by have := hlo k hk; omega), h.two.bw.kept hg (fun k hk => by have := hlo k hk; omega), bl_g h.two.bl hg (fun k hk => by have := hlo k hk; omega)⟩, ?_, ?_, fun b hb2 e => ?_, hb, Nat.le_trans hW hg.size⟩
  · refine h.om.kept hg ?_
    cases hv : vm.ownBlock with
    | none => exact .inl rfl
    | some b => exact .inr (fun e => h.dis b hv e.symm)
  · rw [take_snoc hj, List.map_append, List.map_append]; exact ho
  · rcases hl with hl | hl
    · exact h.dis b hb2 (by rw [← hl]; exact e)
    · have := hl b e
      have := (h.om.lt b hb2).2
      omega
/-- The first k bytes made great. -/
def upTo (l : List UInt8) (k : Nat) : List UInt8 := (l.take k).map upU ++ l.drop k
theorem upTo_len (l : List UInt8) (k : Nat) : (upTo l k).length = l.length := by unfold upTo; simp; omega
theorem upTo_zero (l : List UInt8) : upTo l 0 = l := by simp [upTo]
theorem upTo_all (l : List UInt8) {k : Nat} (h : l.length ≤ k) : upTo l k = upL l := by
  simp [upTo, upL, List.take_of_length_le h, List.drop_eq_nil_of_le h]
theorem upTo_succ (l : List UInt8) (k : Nat) (h : k < l.length) : upTo l (k + 1) = (upTo l k).set k (upU l[k]) := by
  unfold upTo
  rw [List.take_succ_eq_append_getElem h, List.set_append_right _ _ (by simp; omega)]
  have e : k - ((l.take k).map upU).length = 0 := by simp; omega
  rw [e, List.drop_eq_getElem_cons h, List.set_cons_zero, List.map_append, List.append_assoc]
  rfl
theorem upTo_at (l : List UInt8) (k : Nat) (h : k < l.length) : (upTo l k)[k]'(by rw [upTo_len]; exact h) = l[k] := by
  unfold upTo
  rw [List.getElem_append_right (by simp; omega)]
  simp; congr 1; omega
theorem upTo_same (l : List UInt8) (k : Nat) (h : k < l.length) (hl : smallB (l[k].toNat : Int) = false) : upTo l (k + 1) = upTo l k := by
  have e : upU l[k] = l[k] := by unfold upU; rw [hl]; rfl
  rw [upTo_succ l k h, e]
  conv => lhs; rw [← upTo_at l k h]
  exact List.set_getElem_self _
theorem up_step {wr : World} {g : Nat} {l : List UInt8} {k : Nat} {c : UInt8} (hkl : k < l.length) (hc : l[k] = c) (hs : smallB (c.toNat : Int) = true) (h : BytesAt wr g (upTo l k)) :
    BytesAt (wr.setCell ⟨g, k, none⟩ (.int .u8 ((c.toNat : Int) - 32))) g (upTo l (k + 1)) := by
  subst hc
  have e : ((upU l[k]).toNat : Int) = (l[k].toNat : Int) - 32 := by
    unfold upU
    rw [if_pos hs, cap_sub hs]
    simp only [smallB, decide_eq_true_eq] at hs
    omega
  rw [upTo_succ l k hkl, ← e]
  exact h.set k _
theorem BytesAt.kept {w w' : World} {g : Nat} {l : List UInt8} {row : Option Nat} (h : BytesAt w g l) (hg : w.grownBy w' row) (hlt : g < w.heap.size) (hr : ∀ j, row = some j → j ≠ g) : BytesAt w' g l := fun j hj => by
  have hk := hg.block g hlt (fun e => hr g e.symm rfl)
  refine ⟨by rw [World.cell?_of_block (a := ⟨g, j, none⟩) hk]; exact (h j hj).1, ?_⟩
  have := (h j hj).2
  unfold World.frozen? at *
  simp only [hk]; exact this
theorem BytesAt.below {w w' : World} {g : Nat} {l : List UInt8} (h : BytesAt w g l) (hb : Below w.heap.size w w') (hlt : g < w.heap.size) : BytesAt w' g l := h.kept (row := none) (gr_below hb) hlt (fun j e => by cases e)
/-- A row of words reads as these words. -/
theorem wds_own {w : World} {base n c : Nat} {a : Option Addr} {l : List TxC} (h : w.ownsRow base 9 1 (.slice a n c) n (l.map strC)) (hl : ∀ s ∈ l, s.length ≤ maxLen) (hn : n ≤ maxLen) : Wds w a l := by
  have h1 := SL.own h hn
  have hll : l.length = n := by have := h.1; simpa using this
  refine ⟨hl, fun h0 => ?_⟩
  rcases h1.2 with ⟨e, _⟩ | ⟨b, off, c', e, hlt, hc⟩
  · rw [List.map_eq_nil_iff] at e
    rw [e] at h0; simp at h0
  · simp only [Value.slice.injEq] at e
    refine ⟨b, off, e.1, hlt, fun i hi => ?_⟩
    have := hc i (by simpa using hi)
    rw [this]
    simp [strC]
theorem str_newS (w : World) (s : ByteArray) (T : TypeId) : ∀ j u, ([.string s] : List Value)[j]? = some u → (w.alloc (.cells #[.string s] T)).cell? ((⟨w.heap.size, 0, none⟩ : Addr).add j) = some u := news_lit w [.string s] T
/-- A phrase that comes of words has used one at least. -/
theorem parse_pos {one : List TxC → Int × Nat × Int} (hc : Cut one) (vis car : List Int) (ks : List TxC) (many : Bool) (he : (parseN one vis car ks many).er = 0) : 0 < (parseN one vis car ks many).us := by
  have lst : ∀ l : List TxC, (listN one l (l.length + 1) 0 []).er = 0 → 0 < (listN one l (l.length + 1) 0 []).us := fun l hl => (list_cut hc l (l.length + 1) 0 [] hl (Nat.zero_le _) (by omega)).1
  cases many with
  | false =>
    have he' : (itemN (one ks)).er = 0 := he
    show 0 < (itemN (one ks)).us
    obtain ⟨⟨x, v, r3⟩, hr⟩ : ∃ r, one ks = r := ⟨_, rfl⟩
    rw [hr] at he' ⊢
    by_cases h3 : r3 = 0
    · subst h3
      exact (hc _ _ _ hr).1
    · exfalso
      have e : itemN (x, v, r3) = ⟨[], v, r3⟩ := by unfold itemN; simp [h3]
      rw [e] at he'
      exact h3 he'
  | true =>
    have he' : (manyN one vis car ks).er = 0 := he
    show 0 < (manyN one vis car ks).us
    cases ks with
    | nil => exact lst [] he'
    | cons k r =>
      cases ha : allL.contains k with
      | false =>
        have e : manyN one vis car (k :: r) = listN one (k :: r) ((k :: r).length + 1) 0 [] := by simp only [manyN, ha, Bool.false_eq_true, if_false]
        rw [e] at he' ⊢
        exact lst _ he'
      | true =>
        simp only [manyN, ha, if_true]
        split
        · split <;> exact Nat.one_pos
        · split
          · split
            · split <;> (simp only; omega)
            · simp only; omega
          · split <;> exact Nat.one_pos
theorem ow_cap {w : World} {base : Nat} {e : TypeId} {k n c : Nat} {a : Option Addr} {xs : List Value} (h : w.ownsRow base e k (.slice a n c) n xs) : n ≤ c := by
  rcases h.2 with ⟨e1, e2⟩ | ⟨g, cap, cur, e1, hbg, hg, hnc, _⟩
  · omega
  · simp only [Value.slice.injEq] at e1
    omega
end Go.Proofs.Ytjggklfegcejhaa
namespace Go.Proofs.Ytjggklfegcejhaa
open Go.RowKit Go.PlainAid Go.Deep
set_option linter.unusedVariables false
set_option linter.unusedSimpArgs false

set_option maxRecDepth 100000 in
set_option maxHeartbeats 16000000 in
theorem walkBehind (x : TAd) (t : TbC) (q : Wv) (d : WdC) (a : Option Addr) (ws : List TxC) (c : Nat) (many : Bool) (w : World) (ht : TabIs w x t) (hw : WRd w q d) (hws : Wds w a ws) (hc : ws.length ≤ c) :
    Calls Try.prog 4 #[tabV x t, worldV q, .slice a ws.length c, .bool many] w fun e w' => e = .returned (.bool true) ∧ Below w.heap.size w w' := by
  have hnew := Two.new x t q w
  obtain ⟨W0, hW0⟩ : ∃ W0, (w.alloc (.cells (tabC x t).toArray 28)).alloc (.cells (worldC q).toArray 33) = W0 := ⟨_, rfl⟩
  rw [hW0] at hnew
  have HMY := Lib.hid (fun w' (hb : Below w.heap.size w w') => mayC x t q d a ws c w' (ht.below hb) (hw.below hb) (hws.below hb))
  have HPA := Lib.hid (fun (hk : MayOk t q d ws) a' ws' c' w' (hb : Below w.heap.size w w') hw' hc' hl' => parseC x t q d a' ws' c' many w' (ht.below hb) (hk.rt.ok hk.fit (hw.below hb)) (fun y => reach_few hk.rt (hk.rt.ok hk.fit hw) y) hw' hc' hl')
  have HAW := Lib.hid (fun w' => awake36 w')
  have HWD := Lib.hid (fun w' (hb : Below w.heap.size w w') => hws.below hb)
  obtain ⟨m, hm⟩ : ∃ m, ws.length = m := ⟨_, rfl⟩
  have HWM := Lib.hid hm
  rw [hm] at hc HMY ⊢
  clear ht hw hws hm
  have HTW := Lib.hid (hnew)
  have HTWt := Lib.hid HTW.out.bt
  have HTWw := Lib.hid HTW.out.bw
  have kt0 := HTWt.out.cell 0
  have kt1 := HTWt.out.cell 1
  have kt2 := HTWt.out.cell 2
  have kt3 := HTWt.out.cell 3
  have kt4 := HTWt.out.cell 4
  have kt5 := HTWt.out.cell 5
  have kt6 := HTWt.out.cell 6
  have kt7 := HTWt.out.cell 7
  have kt8 := HTWt.out.cell 8
  have kt9 := HTWt.out.cell 9
  have kt10 := HTWt.out.cell 10
  have kt11 := HTWt.out.cell 11
  have kt12 := HTWt.out.cell 12
  have kt13 := HTWt.out.cell 13
  have kt14 := HTWt.out.cell 14
  simp only [tabC, List.getElem?_cons_zero, List.getElem?_cons_succ] at kt0 kt1 kt2 kt3 kt4 kt5 kt6 kt7 kt8 kt9 kt10 kt11 kt12 kt13 kt14
  have b0 := HTWw.out.cell 0
  have b1 := HTWw.out.cell 1
  have b2 := HTWw.out.cell 2
  have b3 := HTWw.out.cell 3
  have b4 := HTWw.out.cell 4
  have b5 := HTWw.out.cell 5
  have b6 := HTWw.out.cell 6
  have b7 := HTWw.out.cell 7
  have b8 := HTWw.out.cell 8
  have b9 := HTWw.out.cell 9
  have bA := HTWw.out.cell 10
  have bB := HTWw.out.cell 11
  have bC := HTWw.out.cell 12
  simp only [worldC, List.getElem?_cons_zero, List.getElem?_cons_succ] at b0 b1 b2 b3 b4 b5 b6 b7 b8 b9 bA bB bC
  clear hnew
  unfold tabV worldV at *
  go_enter Try.func4, Try.ntmps4
  unfold worldC at HMY HPA hW0 ⊢
  unfold tabC at HMY HPA hW0 ⊢
  by_cases hm12 : 12 < m
  · have hmi : (12 : Int) < (m : Int) := by omega
    go_wp2_with fail
    clear hW0
    refine (HAW.out _).mono ?_
    rintro e w9 ⟨rfl, hb9⟩
    have HB9 := Lib.hid (bl_then HTW.out.bl hb9)
    clear hb9
    clear kt0 kt1 kt2 kt3 kt4 kt5 kt6 kt7 kt8 kt9 kt10 kt11 kt12 kt13 kt14
    clear b0 b1 b2 b3 b4 b5 b6 b7 b8 b9 bA bB bC
    clear HTWt HTWw
    go_wp2_with fail
    go_ret
    exact ⟨rfl, HB9.out⟩
  · have hmi : ¬ ((12 : Int) < (m : Int)) := by omega
    go_wp2_with fail
    clear hW0
    refine (HMY.out _ HTW.out.bl).mono ?_
    rintro e w1 ⟨bm, rfl, hbm, hb1⟩
    have HBM := Lib.hid hbm
    have hnew := HTW.out.below hb1
    clear kt0 kt1 kt2 kt3 kt4 kt5 kt6 kt7 kt8 kt9 kt10 kt11 kt12 kt13 kt14
    clear b0 b1 b2 b3 b4 b5 b6 b7 b8 b9 bA bB bC
    clear HTWt HTWw
    clear HTW
    have HTW := Lib.hid (hnew)
    have HTWt := Lib.hid HTW.out.bt
    have HTWw := Lib.hid HTW.out.bw
    have kt0 := HTWt.out.cell 0
    have kt1 := HTWt.out.cell 1
    have kt2 := HTWt.out.cell 2
    have kt3 := HTWt.out.cell 3
    have kt4 := HTWt.out.cell 4
    have kt5 := HTWt.out.cell 5
    have kt6 := HTWt.out.cell 6
    have kt7 := HTWt.out.cell 7
    have kt8 := HTWt.out.cell 8
    have kt9 := HTWt.out.cell 9
    have kt10 := HTWt.out.cell 10
    have kt11 := HTWt.out.cell 11
    have kt12 := HTWt.out.cell 12
    have kt13 := HTWt.out.cell 13
    have kt14 := HTWt.out.cell 14
    simp only [tabC, List.getElem?_cons_zero, List.getElem?_cons_succ] at kt0 kt1 kt2 kt3 kt4 kt5 kt6 kt7 kt8 kt9 kt10 kt11 kt12 kt13 kt14
    have b0 := HTWw.out.cell 0
    have b1 := HTWw.out.cell 1
    have b2 := HTWw.out.cell 2
    have b3 := HTWw.out.cell 3
    have b4 := HTWw.out.cell 4
    have b5 := HTWw.out.cell 5
    have b6 := HTWw.out.cell 6
    have b7 := HTWw.out.cell 7
    have b8 := HTWw.out.cell 8
    have b9 := HTWw.out.cell 9
    have bA := HTWw.out.cell 10
    have bB := HTWw.out.cell 11
    have bC := HTWw.out.cell 12
    simp only [worldC, List.getElem?_cons_zero, List.getElem?_cons_succ] at b0 b1 b2 b3 b4 b5 b6 b7 b8 b9 bA bB bC
    clear hnew
    clear hbm hb1
    cases bm with
    | false =>
      go_wp2_with fail
      refine (HAW.out _).mono ?_
      rintro e w9 ⟨rfl, hb9⟩
      have HB9 := Lib.hid (bl_then HTW.out.bl hb9)
      clear hb9
      clear kt0 kt1 kt2 kt3 kt4 kt5 kt6 kt7 kt8 kt9 kt10 kt11 kt12 kt13 kt14
      clear b0 b1 b2 b3 b4 b5 b6 b7 b8 b9 bA bB bC
      clear HTWt HTWw
      go_wp2_with fail
      go_ret
      exact ⟨rfl, HB9.out⟩
    | true =>
      have HK := Lib.hid (HBM.out rfl)
      have HPA := Lib.hid (HPA.out HK.out)
      have HBS0 := Lib.hid (BSt.start HTW.out ws)
      go_wp2_with fail
      clear kt0 kt1 kt2 kt3 kt4 kt5 kt6 kt7 kt8 kt9 kt10 kt11 kt12 kt13 kt14
      clear b0 b1 b2 b3 b4 b5 b6 b7 b8 b9 bA bB bC
      clear HTWt HTWw
      clear HTW HMY HBM
      obtain ⟨i0, hi, hi1, hi2, hi3⟩ := info_parts info_strB
      go_loopw [9, 10, 11] (fun mv gv iv wr => ∃ (i : Nat) (am ag : Option Addr) (cm cg : Nat), mv = .slice am i cm ∧ gv = .slice ag i cg ∧ iv = .int .i64 i ∧ i ≤ m ∧ Hid (∀ j (h : j < ws.length), j < i → (ws[j]).length ≤ 9) ∧ Hid (BSt x t q w w1 wr (.slice am i cm) (.slice ag i cg) ws i i)) (fun _ _ iv _ => m - (intOf iv).toNat)
      case atStart => exact ⟨0, none, none, 0, 0, rfl, rfl, rfl, Nat.zero_le _, Lib.hid (fun j _ h => by omega), HBS0⟩
      case round =>
        obtain ⟨i, am, ag, cm, cg, rfl, rfl, rfl, hil, H9, HBS⟩ := hrel
        obtain ⟨wo, rfl⟩ : ∃ wo, wo = wr := ⟨wr, rfl⟩
        by_cases hlt : i < m
        · have hlt2 : (i : Int) < (m : Int) := by omega
          have hiL : i < ws.length := by rw [HWM.out]; exact hlt
          obtain ⟨b, o, rfl, hb, hcs⟩ := (HWD.out _ HBS.out.two.bl).2 (by omega)
          have hci := hcs i hiL
          obtain ⟨s, hs⟩ : ∃ s, ws[i] = s := ⟨_, rfl⟩
          rw [hs] at hci
          have HSX := Lib.hid hs
          have HBLT := Lib.hid hb
          clear hcs hs
          by_cases h9 : 9 < s.length
          · have h9i : (9 : Int) < (s.length : Int) := by omega
            go_wp2_with fail
            refine (HAW.out _).mono ?_
            rintro e w9 ⟨rfl, hb9⟩
            have HB9 := Lib.hid (bl_then HBS.out.two.bl hb9)
            clear hb9 hci
            go_wp2_with fail
            go_ret
            exact ⟨rfl, HB9.out⟩
          · have h9i : ¬ ((9 : Int) < (s.length : Int)) := by omega
            obtain ⟨capb, w2, hconv, hby, hbl2, hlt3⟩ := bytes_conv (P := Try.prog) wo 9 37 5 ⟨s.toArray⟩ Try.underlying9 Try.underlying37 Try.underlying5
            have HBY0 : Hid (BytesAt w2 wo.heap.size (upTo s 0)) := Lib.hid (by rw [upTo_zero]; exact hby)
            have HBL2 := Lib.hid hbl2
            have HLT2 := Lib.hid hlt3
            have hsz : (⟨s.toArray⟩ : ByteArray).size = s.length := by simp [ByteArray.size]
            rw [hsz] at hconv
            clear hby hbl2 hlt3 hsz
            go_wp2_with fail
            go_loopw [13] (fun kv wr => ∃ k : Nat, kv = .int .i64 k ∧ k ≤ s.length ∧ Hid (BytesAt wr wo.heap.size (upTo s k)) ∧ Hid (Below wo.heap.size wo wr) ∧ Hid (wo.heap.size < wr.heap.size)) (fun kv _ => s.length - (intOf kv).toNat)
            case atStart => exact ⟨0, rfl, Nat.zero_le _, HBY0, HBL2, HLT2⟩
            case round =>
              clear HBY0 HBL2 HLT2
              obtain ⟨k, rfl, hk, HBY, HBL, HGL⟩ := hrel
              by_cases hkl : k < s.length
              · have hki : (k : Int) < (s.length : Int) := by omega
                have hkk : k < (upTo s k).length := by rw [upTo_len]; exact hkl
                have hc := (HBY.out k hkk).1
                have hf := (HBY.out k hkk).2
                rw [upTo_at _ _ hkl] at hc
                obtain ⟨ch, hch⟩ : ∃ ch, s[k] = ch := ⟨_, rfl⟩
                rw [hch] at hc
                have HC := Lib.hid hch
                clear hch hkk
                have hzk : wo.heap.size < wr.heap.size := HGL.out
                by_cases h97 : (97 : Int) ≤ (ch.toNat : Int)
                · by_cases h122 : (ch.toNat : Int) ≤ 122
                  · have HST := Lib.hid (up_step hkl HC.out (by simp only [smallB, decide_eq_true_eq]; exact ⟨h97, h122⟩) HBY.out)
                    have HST2 := Lib.hid (bl_s HBL.out k (.int .u8 ((ch.toNat : Int) - 32)) (k := wo.heap.size))
                    go_wp2_with fail
                    go_roundw
                    case rel => exact ⟨k + 1, by go_num, by omega, HST, HST2, Lib.hid (by simp [World.setCell]; exact hzk)⟩
                    case measure => simp [intOf]; omega
                  · have HE : Hid (upTo s (k + 1) = upTo s k) := Lib.hid (upTo_same s k hkl (by rw [HC.out]; simp only [smallB, decide_eq_false_iff_not]; omega))
                    have h122i : ¬ ((ch.toNat : Int) ≤ 122) := h122
                    go_wp2_with fail
                    go_roundw
                    case rel => exact ⟨k + 1, by go_num, by omega, by rw [HE.out]; exact HBY, HBL, HGL⟩
                    case measure => simp [intOf]; omega
                · have HE : Hid (upTo s (k + 1) = upTo s k) := Lib.hid (upTo_same s k hkl (by rw [HC.out]; simp only [smallB, decide_eq_false_iff_not]; omega))
                  have h97i : ¬ ((97 : Int) ≤ (ch.toNat : Int)) := h97
                  go_wp2_with fail
                  go_roundw
                  case rel => exact ⟨k + 1, by go_num, by omega, by rw [HE.out]; exact HBY, HBL, HGL⟩
                  case measure => simp [intOf]; omega
              · have HUP : Hid (upTo s k = upL s) := Lib.hid (upTo_all s (by omega))
                have hzk : wo.heap.size < wr.heap.size := HGL.out
                have HBS2 := Lib.hid (HBS.out.below HBL.out)
                have HBA := Lib.hid (HBS2.out.below (bl_a (Below.refl _ _) (.cells #[.string ⟨s.toArray⟩] 9)))
                have HSL : Hid (s.length = (upL s).length) := Lib.hid (by simp [upL])
                have HW2 : Hid (w1.heap.size ≤ wr.heap.size) := Lib.hid HBS2.out.hW
                have hw2 : w1.heap.size ≤ wr.heap.size := HW2.out
                have hci2 := (HBL.out.cell (p := ⟨b, o + i, none⟩) HBLT.out).trans hci
                have HAM := Lib.hid HBA.out.om
                have HVL : Hid (∀ j, (Value.slice am i cm).ownBlock = some j → j < wo.heap.size) := Lib.hid (fun j e => (HBS.out.om.lt j e).2)
                have HBYA := Lib.hid (HBY.out.below (bl_a (Below.refl _ _) (.cells #[.string ⟨s.toArray⟩] 9)) HGL.out)
                have HGLA : Hid (wo.heap.size < (wr.alloc (.cells #[.string ⟨s.toArray⟩] 9)).heap.size) := Lib.hid (by rw [World.size_alloc]; have := HGL.out; omega)
                clear hci hconv
                go_wp2_with (at_builtin; refine wpList_append_lies _ rfl _ _ 22 rfl w1.heap.size 9 i0 (.string ⟨#[]⟩) 1 16 Try.underlying22 hi hi1 hi2 hi3 rfl (by decide) _ i ((ws.take i).map strC) rfl HAM.out ⟨wr.heap.size, 0, none⟩ 1 1 [.string ⟨s.toArray⟩] rfl rfl (str_newS _ _ _) (ow_one rfl) (by decide) (by unfold maxLen; omega) (by omega) (by simp; omega) _ rfl ?_; intro g1 k1 w3 hown3 hgrow3 hat3 hlt3; refine Hid.out ?_)
                refine Lib.hid ?_
                have HBS3 := Lib.hid (HBA.out.addM hiL hgrow3 (by rw [HSX.out]; exact hown3) (app_lie hat3))
                have HBY3 := Lib.hid (HBYA.out.kept hgrow3 HGLA.out (fun j e => by have := HVL.out j e; omega))
                clear hown3 hgrow3 hat3 hlt3 hci2
                have hback := back_conv (P := Try.prog) w3 37 9 5 wo.heap.size capb s.length (upL s) Try.underlying37 Try.underlying5 Try.underlying9 HSL.out.symm (by rw [← HUP.out]; exact HBY3.out)
                have HBB := Lib.hid (HBS3.out.below (bl_a (Below.refl _ _) (.cells #[.string ⟨(upL s).toArray⟩] 9)))
                have HAG := Lib.hid HBB.out.og
                have hw3 : w1.heap.size ≤ w3.heap.size := HBS3.out.hW
                go_wp2_with (at_builtin; refine wpList_append_lies _ rfl _ _ 22 rfl w1.heap.size 9 i0 (.string ⟨#[]⟩) 1 16 Try.underlying22 hi hi1 hi2 hi3 rfl (by decide) _ i (((ws.take i).map upL).map strC) rfl HAG.out ⟨w3.heap.size, 0, none⟩ 1 1 [.string ⟨(upL s).toArray⟩] rfl rfl (str_newS _ _ _) (ow_one rfl) (by decide) (by unfold maxLen; omega) (by omega) (by simp; omega) _ rfl ?_; intro g2 k2 w4 hown4 hgrow4 hat4 hlt4; refine Hid.out ?_)
                refine Lib.hid ?_
                have HBS4 := Lib.hid (HBB.out.addG hiL hgrow4 (by rw [HSX.out]; exact hown4) (app_lie hat4))
                clear hown4 hgrow4 hat4 hlt4 hback
                have H9' : Hid (∀ j (h : j < ws.length), j < i + 1 → (ws[j]).length ≤ 9) := Lib.hid (fun j hj hji => by
                  by_cases e : j = i
                  · subst e; rw [HSX.out]; omega
                  · exact H9.out j hj (by omega))
                go_wp2_with fail
                go_roundw
                case rel => exact ⟨i + 1, some ⟨g1, 0, none⟩, some ⟨g2, 0, none⟩, k1, k2, rfl, rfl, by go_num, by omega, H9', HBS4⟩
                case measure => simp [intOf]; omega
        · have hiem : m = i := by omega
          subst hiem
          as_aux_lemma =>
            have HTWx := HBS.out.two
            have HTW := Lib.hid (HTWx)
            have HTWt := Lib.hid HTW.out.bt
            have HTWw := Lib.hid HTW.out.bw
            have kt0 := HTWt.out.cell 0
            have kt1 := HTWt.out.cell 1
            have kt2 := HTWt.out.cell 2
            have kt3 := HTWt.out.cell 3
            have kt4 := HTWt.out.cell 4
            have kt5 := HTWt.out.cell 5
            have kt6 := HTWt.out.cell 6
            have kt7 := HTWt.out.cell 7
            have kt8 := HTWt.out.cell 8
            have kt9 := HTWt.out.cell 9
            have kt10 := HTWt.out.cell 10
            have kt11 := HTWt.out.cell 11
            have kt12 := HTWt.out.cell 12
            have kt13 := HTWt.out.cell 13
            have kt14 := HTWt.out.cell 14
            simp only [tabC, List.getElem?_cons_zero, List.getElem?_cons_succ] at kt0 kt1 kt2 kt3 kt4 kt5 kt6 kt7 kt8 kt9 kt10 kt11 kt12 kt13 kt14
            have b0 := HTWw.out.cell 0
            have b1 := HTWw.out.cell 1
            have b2 := HTWw.out.cell 2
            have b3 := HTWw.out.cell 3
            have b4 := HTWw.out.cell 4
            have b5 := HTWw.out.cell 5
            have b6 := HTWw.out.cell 6
            have b7 := HTWw.out.cell 7
            have b8 := HTWw.out.cell 8
            have b9 := HTWw.out.cell 9
            have bA := HTWw.out.cell 10
            have bB := HTWw.out.cell 11
            have bC := HTWw.out.cell 12
            simp only [worldC, List.getElem?_cons_zero, List.getElem?_cons_succ] at b0 b1 b2 b3 b4 b5 b6 b7 b8 b9 bA bB bC
            clear HTWx
            obtain ⟨PH, hPH⟩ : ∃ p, parseN (oneW t q d) (visN d t.th.length) (reachV d t.th.length 1) (ws.map keyW) many = p := ⟨_, rfl⟩
            have HPH := Lib.hid hPH
            have HP1 := Lib.hid (fun w' (hb : Below w.heap.size w w') => HPA.out a ws c w' hb (HWD.out w' hb) (by rw [HWM.out]; exact hc) (by rw [HWM.out]; omega))
            rw [hPH, HWM.out] at HP1
            clear hPH
            go_wp2_with fail
            refine (HP1.out _ HTW.out.bl).mono ?_
            rintro e w4 ⟨ap, cp, rfl, hip, hbp, hfp⟩
            have HIP := Lib.hid hip
            have HBS4 := Lib.hid (HBS.out.below hbp)
            have hnew := HTW.out.below hbp
            clear kt0 kt1 kt2 kt3 kt4 kt5 kt6 kt7 kt8 kt9 kt10 kt11 kt12 kt13 kt14
            clear b0 b1 b2 b3 b4 b5 b6 b7 b8 b9 bA bB bC
            clear HTWt HTWw
            clear HTW
            have HTW := Lib.hid (hnew)
            have HTWt := Lib.hid HTW.out.bt
            have HTWw := Lib.hid HTW.out.bw
            have kt0 := HTWt.out.cell 0
            have kt1 := HTWt.out.cell 1
            have kt2 := HTWt.out.cell 2
            have kt3 := HTWt.out.cell 3
            have kt4 := HTWt.out.cell 4
            have kt5 := HTWt.out.cell 5
            have kt6 := HTWt.out.cell 6
            have kt7 := HTWt.out.cell 7
            have kt8 := HTWt.out.cell 8
            have kt9 := HTWt.out.cell 9
            have kt10 := HTWt.out.cell 10
            have kt11 := HTWt.out.cell 11
            have kt12 := HTWt.out.cell 12
            have kt13 := HTWt.out.cell 13
            have kt14 := HTWt.out.cell 14
            simp only [tabC, List.getElem?_cons_zero, List.getElem?_cons_succ] at kt0 kt1 kt2 kt3 kt4 kt5 kt6 kt7 kt8 kt9 kt10 kt11 kt12 kt13 kt14
            have b0 := HTWw.out.cell 0
            have b1 := HTWw.out.cell 1
            have b2 := HTWw.out.cell 2
            have b3 := HTWw.out.cell 3
            have b4 := HTWw.out.cell 4
            have b5 := HTWw.out.cell 5
            have b6 := HTWw.out.cell 6
            have b7 := HTWw.out.cell 7
            have b8 := HTWw.out.cell 8
            have b9 := HTWw.out.cell 9
            have bA := HTWw.out.cell 10
            have bB := HTWw.out.cell 11
            have bC := HTWw.out.cell 12
            simp only [worldC, List.getElem?_cons_zero, List.getElem?_cons_succ] at b0 b1 b2 b3 b4 b5 b6 b7 b8 b9 bA bB bC
            clear hnew
            clear hip hbp hfp HBS
            obtain ⟨l, u, r⟩ := PH
            dsimp only at HIP ⊢
            go_wp2_with fail
            have HK5' : BK (w4.alloc (.cells #[.slice ap l.length cp, .int .i64 u, .int .i64 r] 40)) w4.heap.size [.slice ap l.length cp, .int .i64 u, .int .i64 r] 40 := BK.new w4 [.slice ap l.length cp, .int .i64 u, .int .i64 r] 40
            have HBa := bl_a (Below.refl w4.heap.size w4) (.cells #[.slice ap l.length cp, .int .i64 u, .int .i64 r] 40)
            generalize w4.alloc (.cells #[.slice ap l.length cp, .int .i64 u, .int .i64 r] 40) = W5 at HK5' HBa ⊢
            have HK5 := Lib.hid HK5'
            have HBS5 := Lib.hid (HBS4.out.below HBa)
            have HIP5 := Lib.hid (HIP.out.below HBa)
            have hnew := HTW.out.below HBa
            clear kt0 kt1 kt2 kt3 kt4 kt5 kt6 kt7 kt8 kt9 kt10 kt11 kt12 kt13 kt14
            clear b0 b1 b2 b3 b4 b5 b6 b7 b8 b9 bA bB bC
            clear HTWt HTWw
            clear HTW
            have HTW := Lib.hid (hnew)
            have HTWt := Lib.hid HTW.out.bt
            have HTWw := Lib.hid HTW.out.bw
            have kt0 := HTWt.out.cell 0
            have kt1 := HTWt.out.cell 1
            have kt2 := HTWt.out.cell 2
            have kt3 := HTWt.out.cell 3
            have kt4 := HTWt.out.cell 4
            have kt5 := HTWt.out.cell 5
            have kt6 := HTWt.out.cell 6
            have kt7 := HTWt.out.cell 7
            have kt8 := HTWt.out.cell 8
            have kt9 := HTWt.out.cell 9
            have kt10 := HTWt.out.cell 10
            have kt11 := HTWt.out.cell 11
            have kt12 := HTWt.out.cell 12
            have kt13 := HTWt.out.cell 13
            have kt14 := HTWt.out.cell 14
            simp only [tabC, List.getElem?_cons_zero, List.getElem?_cons_succ] at kt0 kt1 kt2 kt3 kt4 kt5 kt6 kt7 kt8 kt9 kt10 kt11 kt12 kt13 kt14
            have b0 := HTWw.out.cell 0
            have b1 := HTWw.out.cell 1
            have b2 := HTWw.out.cell 2
            have b3 := HTWw.out.cell 3
            have b4 := HTWw.out.cell 4
            have b5 := HTWw.out.cell 5
            have b6 := HTWw.out.cell 6
            have b7 := HTWw.out.cell 7
            have b8 := HTWw.out.cell 8
            have b9 := HTWw.out.cell 9
            have bA := HTWw.out.cell 10
            have bB := HTWw.out.cell 11
            have bC := HTWw.out.cell 12
            simp only [worldC, List.getElem?_cons_zero, List.getElem?_cons_succ] at b0 b1 b2 b3 b4 b5 b6 b7 b8 b9 bA bB bC
            clear hnew
            clear HK5' HBa HBS4 HIP
            generalize w4.heap.size = p4 at *
            have HTK : Hid (ws.take m = ws) := Lib.hid (List.take_of_length_le (by rw [HWM.out]; exact Nat.le_refl _))
            have HWG : Hid (∀ w', Below W5.heap.size W5 w' → Wds w' ag (ws.map upL)) := Lib.hid (fun w' hb => by
              have h1 := (HBS5.out.below hb).og
              rw [HTK.out] at h1
              refine wds_own h1 (fun s hs => ?_) (by unfold maxLen; omega)
              obtain ⟨s', hs', rfl⟩ := List.mem_map.1 hs
              obtain ⟨j, hj, rfl⟩ := List.getElem_of_mem hs'
              have h2 := H9.out j hj (by rw [HWM.out] at hj; exact hj)
              unfold upL maxLen
              rw [List.length_map]; omega)
            have HLG : Hid ((ws.map upL).length = m) := Lib.hid (by rw [List.length_map]; exact HWM.out)
            have HCG : Hid (m ≤ cg) := Lib.hid (ow_cap HBS5.out.og)
            have HP2 := Lib.hid (fun w' (hb : Below w.heap.size w w') (hb5 : Below W5.heap.size W5 w') => HPA.out ag (ws.map upL) cg w' hb (HWG.out w' hb5) (by rw [HLG.out]; exact HCG.out) (by rw [HLG.out]; omega))
            rw [up_keys, HLG.out, HPH.out] at HP2
            have hk5 := HK5.out
            have y0 := hk5.cell 0
            have y1 := hk5.cell 1
            have y2 := hk5.cell 2
            have hz5 := hk5.lt
            simp only [List.getElem?_cons_zero, List.getElem?_cons_succ] at y0 y1 y2
            clear hk5
            have hz0 : w.heap.size < (W5).heap.size := HTW.out.bt.lt
            have hz1 : w.heap.size + 1 < (W5).heap.size := HTW.out.bw.lt
            refine region_ways (.rd 0 (.rd 1 (.rd 2 (.rd 3 (.rd 5 (.one 4 (.one 6 (.one 7 .done)))))))) (fun w' => Below W5.heap.size W5 w') (by kernel_rfl) (by kernel_rfl) ((Below.refl _ _).drew) (fun KK hKK => ?_)
            intro OPS
            simp only [Ways.see, List.getElem?_cons_zero, List.getElem?_cons_succ]
            refine' inWays_read ?_ ?_ ?_ ?_
            rotate_left 2
            · rfl
            · (intro w' hS; obtain ⟨hcc, hff⟩ := bcell hS; go_simp; first | done | with_reducible rfl)
            · (simp only [Act.put, List.setIfInBounds_toArray, List.set_cons_zero, List.set_cons_succ]; with_reducible rfl)
            refine' inWays_read ?_ ?_ ?_ ?_
            rotate_left 2
            · rfl
            · (intro w' hS; obtain ⟨hcc, hff⟩ := bcell hS; go_simp; first | done | with_reducible rfl)
            · (simp only [Act.put, List.setIfInBounds_toArray, List.set_cons_zero, List.set_cons_succ]; with_reducible rfl)
            refine' inWays_read ?_ ?_ ?_ ?_
            rotate_left 2
            · rfl
            · (intro w' hS; obtain ⟨hcc, hff⟩ := bcell hS; go_simp; first | done | with_reducible rfl)
            · (simp only [Act.put, List.setIfInBounds_toArray, List.set_cons_zero, List.set_cons_succ]; with_reducible rfl)
            refine' inWays_read ?_ ?_ ?_ ?_
            rotate_left 2
            · rfl
            · (intro w' hS; obtain ⟨hcc, hff⟩ := bcell hS; go_simp; first | done | with_reducible rfl)
            · (simp only [Act.put, List.setIfInBounds_toArray, List.set_cons_zero, List.set_cons_succ]; with_reducible rfl)
            refine' inWays_read ?_ ?_ ?_ ?_
            rotate_left 2
            · rfl
            · (intro w' hS; obtain ⟨hcc, hff⟩ := bcell hS; go_simp; first | done | with_reducible rfl)
            · (simp only [Act.put, List.setIfInBounds_toArray, List.set_cons_zero, List.set_cons_succ]; with_reducible rfl)
            refine' inWays_call ?_ ?_ ?_
            rotate_left 2
            · rfl
            · (obtain ⟨hcc, hff⟩ := bcell ((Below.refl W5.heap.size W5).drew); go_simp; first | done | exact ⟨rfl, rfl⟩)
            refine (HP2.out _ (bl_then HTW.out.bl ((Below.refl W5.heap.size W5).drew)) ((Below.refl W5.heap.size W5).drew)).mono ?_
            rintro e w6 ⟨ap2, cp2, rfl, hip2, hbp2, _⟩
            have HB6 : Hid (Below W5.heap.size W5 w6) := Lib.hid (bl_then ((Below.refl W5.heap.size W5).drew) hbp2)
            have HIQ := Lib.hid hip2
            clear hip2 hbp2
            refine ⟨_, rfl, HB6.out, ?_⟩
            simp only [Act.put, List.setIfInBounds_toArray, List.set_cons_zero, List.set_cons_succ]
            dsimp only at HIQ ⊢
            refine' inWays_call ?_ ?_ ?_
            rotate_left 2
            · rfl
            · (obtain ⟨hcc, hff⟩ := bcell HB6.out; go_simp; first | done | exact ⟨rfl, rfl⟩)
            refine (same36 ⟨l, u, r⟩ ⟨l, u, r⟩ ap2 ap cp2 cp _ HIQ.out (HIP5.out.below HB6.out)).mono ?_
            rintro e w7 ⟨rfl, hb7⟩
            have HB7 : Hid (Below W5.heap.size W5 w7) := Lib.hid (bl_then HB6.out hb7)
            clear hb7
            refine ⟨_, rfl, HB7.out, ?_⟩
            rw [same_eq rfl rfl rfl]
            simp only [Act.put, List.setIfInBounds_toArray, List.set_cons_zero, List.set_cons_succ]
            refine' inWays_val ?_ ?_ ?_ ?_ ?_
            rotate_left 3
            · rfl
            · (obtain ⟨hcc, hff⟩ := bcell HB7.out; go_simp; first | done | exact ⟨rfl, rfl⟩ | with_reducible rfl)
            · exact HB7.out
            · (simp only [Act.put, List.setIfInBounds_toArray, List.set_cons_zero, List.set_cons_succ]; with_reducible rfl)
            refine inWays_nil (hKK.out _ _ ?_)
            clear hKK OPS
            have HBS7 := Lib.hid (HBS5.out.below HB7.out)
            have HK7 := Lib.hid (HK5.out.below HB7.out)
            have HIP7 := Lib.hid (HIP5.out.below HB7.out)
            clear y0 y1 y2 hz5 hz0 hz1
            have hnew := HTW.out.below HB7.out
            clear kt0 kt1 kt2 kt3 kt4 kt5 kt6 kt7 kt8 kt9 kt10 kt11 kt12 kt13 kt14
            clear b0 b1 b2 b3 b4 b5 b6 b7 b8 b9 bA bB bC
            clear HTWt HTWw
            clear HTW
            have HTW := Lib.hid (hnew)
            have HTWt := Lib.hid HTW.out.bt
            have HTWw := Lib.hid HTW.out.bw
            have kt0 := HTWt.out.cell 0
            have kt1 := HTWt.out.cell 1
            have kt2 := HTWt.out.cell 2
            have kt3 := HTWt.out.cell 3
            have kt4 := HTWt.out.cell 4
            have kt5 := HTWt.out.cell 5
            have kt6 := HTWt.out.cell 6
            have kt7 := HTWt.out.cell 7
            have kt8 := HTWt.out.cell 8
            have kt9 := HTWt.out.cell 9
            have kt10 := HTWt.out.cell 10
            have kt11 := HTWt.out.cell 11
            have kt12 := HTWt.out.cell 12
            have kt13 := HTWt.out.cell 13
            have kt14 := HTWt.out.cell 14
            simp only [tabC, List.getElem?_cons_zero, List.getElem?_cons_succ] at kt0 kt1 kt2 kt3 kt4 kt5 kt6 kt7 kt8 kt9 kt10 kt11 kt12 kt13 kt14
            have b0 := HTWw.out.cell 0
            have b1 := HTWw.out.cell 1
            have b2 := HTWw.out.cell 2
            have b3 := HTWw.out.cell 3
            have b4 := HTWw.out.cell 4
            have b5 := HTWw.out.cell 5
            have b6 := HTWw.out.cell 6
            have b7 := HTWw.out.cell 7
            have b8 := HTWw.out.cell 8
            have b9 := HTWw.out.cell 9
            have bA := HTWw.out.cell 10
            have bB := HTWw.out.cell 11
            have bC := HTWw.out.cell 12
            simp only [worldC, List.getElem?_cons_zero, List.getElem?_cons_succ] at b0 b1 b2 b3 b4 b5 b6 b7 b8 b9 bA bB bC
            clear hnew
            clear HBS5 HK5 HIP5 HB6 HIQ HWG HP2
            have hk5 := HK7.out
            have y0 := hk5.cell 0
            have y1 := hk5.cell 1
            have y2 := hk5.cell 2
            have hz5 := hk5.lt
            simp only [List.getElem?_cons_zero, List.getElem?_cons_succ] at y0 y1 y2
            clear hk5
            have hz0 : w.heap.size < (w7).heap.size := HTW.out.bt.lt
            have hz1 : w.heap.size + 1 < (w7).heap.size := HTW.out.bw.lt
            by_cases hr : r = 0
            · subst hr
              have HCUT : Hid (Cut (oneW t q d)) := Lib.hid (cut_one (star_unknown (fun y hy => ⟨(HK.out.fit.th.words y hy).1.1, (HK.out.fit.th.words y hy).2.1⟩)))
              have HER : Hid ((parseN (oneW t q d) (visN d t.th.length) (reachV d t.th.length 1) (ws.map keyW) many).er = 0) := Lib.hid (by rw [HPH.out])
              have HPC := Lib.hid (parse_cut HCUT.out (visN d t.th.length) (reachV d t.th.length 1) (ws.map keyW) many HER.out)
              have hupos : 0 < u := by
                have := parse_pos HCUT.out (visN d t.th.length) (reachV d t.th.length 1) (ws.map keyW) many HER.out
                rw [HPH.out] at this; exact this
              have hum : u ≤ m := by
                have := HPC.out.1
                rw [HPH.out, List.length_map, HWM.out] at this; exact this
              have HCU : Hid (parseN (oneW t q d) (visN d t.th.length) (reachV d t.th.length 1) ((ws.map keyW).take u ++ [starK]) many = ⟨l, u, 0⟩) := Lib.hid (by
                have := HPC.out.2
                rw [HPH.out] at this; exact this)
              have HKS : Hid ((ws.take u ++ [starK]).map keyW = (ws.map keyW).take u ++ [starK]) := Lib.hid (by
                rw [List.map_append, List.map_take, List.map_singleton, show keyW starK = starK by decide])
              clear HER HPC HCUT
              obtain ⟨g, cap, hge, hgb, hgl⟩ := HBS7.out.om.form (by omega)
              simp only [Value.slice.injEq, true_and] at hge
              obtain ⟨rfl, rfl⟩ := hge
              have hucm : u ≤ cm := Nat.le_trans hum (ow_cap HBS7.out.om)
              have HNEWS : Hid (∀ W', Below w7.heap.size w7 W' → ∀ j v, ((ws.take u).map strC)[j]? = some v → W'.cell? ((⟨g, 0, none⟩ : Addr).add j) = some v) := Lib.hid (fun W' hb j v hj => by
                have hju : j < u := by
                  have := (List.getElem?_eq_some_iff.1 hj).1
                  rw [List.length_map, List.length_take] at this; omega
                rw [addr0, hb.cell (p := ⟨g, j, none⟩) hgl, HBS7.out.om.cellAt j (by omega), HTK.out]
                rw [List.getElem?_map, List.getElem?_take_of_lt hju, ← List.getElem?_map] at hj
                exact hj)
              have HOWN : Hid ((w7.alloc (.cells #[] 9)).ownsRow w7.heap.size 9 1 (.slice (some ⟨w7.heap.size, 0, none⟩) 0 0) 0 []) := Lib.hid (World.ownsRow_lit w7 #[] 0 (Nat.le_refl _) (by decide) rfl)
              have HLT : Hid (((ws.take u).map strC).length = u * 1) := Lib.hid (by rw [List.length_map, List.length_take, HWM.out]; omega)
              have hu0 : (0 : Int) ≤ (u : Int) := by omega
              have hu1 : (u : Int) ≤ (cm : Int) := by omega
              go_wp2_with (at_builtin; refine wpList_append_own _ rfl _ _ 22 rfl w7.heap.size 9 i0 (.string ⟨#[]⟩) 1 16 Try.underlying22 hi hi1 hi2 hi3 rfl (by decide) _ 0 [] rfl HOWN.out ⟨g, 0, none⟩ u cm ((ws.take u).map strC) rfl HLT.out (HNEWS.out _ (bl_a (Below.refl _ _) _)) (by intro v hv; obtain ⟨z, _, rfl⟩ := List.mem_map.1 hv; rfl) (by unfold maxLen; omega) (by omega) (by simp) ?_; intro v3 w8 hown3 hgrow3 _; refine Hid.out ?_)
              have HB8 := Lib.hid (bl_g (bl_a (Below.refl w7.heap.size w7) (.cells #[] 9)) hgrow3 (fun k hk => by have h9 : w7.heap.size = k := Option.some.inj hk; omega))
              rw [Nat.zero_add] at hown3
              obtain ⟨g3, cap3, rfl, hg3, hg3l⟩ := hown3.form (by omega)
              have HO3 := Lib.hid (hown3.alloc (.cells #[.string ⟨#[42, 42, 42]⟩] 9))
              have HZ8 : Hid (w7.heap.size ≤ w8.heap.size) := Lib.hid HB8.out.size
              have hz8 : w7.heap.size ≤ w8.heap.size := HZ8.out
              have HB8a := Lib.hid (bl_a HB8.out (.cells #[.string ⟨#[42, 42, 42]⟩] 9))
              clear hown3 hgrow3
              refine Lib.hid ?_
              go_wp2_with (at_builtin; refine wpList_append_own _ rfl _ _ 22 rfl w7.heap.size 9 i0 (.string ⟨#[]⟩) 1 16 Try.underlying22 hi hi1 hi2 hi3 rfl (by decide) _ u ([] ++ (ws.take u).map strC) rfl HO3.out ⟨w8.heap.size, 0, none⟩ 1 1 [.string ⟨#[42, 42, 42]⟩] rfl rfl (str_newS _ _ _) (ow_one rfl) (by unfold maxLen; omega) (by omega) (by simp; omega) ?_; intro v4 w9 hown4 hgrow4 _; refine Hid.out ?_)
              have HB9 := Lib.hid (bl_g HB8a.out hgrow4 (fun k hk => by have h9 : g3 = k := Option.some.inj hk; omega))
              obtain ⟨g4, cap4, rfl⟩ := ownsRow_succ hown4
              have HO4 : Hid (w9.ownsRow w7.heap.size 9 1 (.slice (some ⟨g4, 0, none⟩) (u + 1) cap4) (u + 1) ((ws.take u ++ [starK]).map strC)) := Lib.hid (by
                rw [List.map_append]; exact hown4)
              clear hown4 hgrow4 hz8 hu0 hu1
              refine Lib.hid ?_
              have HK9 := Lib.hid (HK7.out.below HB9.out)
              have HIP9 := Lib.hid (HIP7.out.below HB9.out)
              clear y0 y1 y2 hz5 hz0 hz1
              have hnew := HTW.out.below HB9.out
              clear kt0 kt1 kt2 kt3 kt4 kt5 kt6 kt7 kt8 kt9 kt10 kt11 kt12 kt13 kt14
              clear b0 b1 b2 b3 b4 b5 b6 b7 b8 b9 bA bB bC
              clear HTWt HTWw
              clear HTW
              have HTW := Lib.hid (hnew)
              have HTWt := Lib.hid HTW.out.bt
              have HTWw := Lib.hid HTW.out.bw
              have kt0 := HTWt.out.cell 0
              have kt1 := HTWt.out.cell 1
              have kt2 := HTWt.out.cell 2
              have kt3 := HTWt.out.cell 3
              have kt4 := HTWt.out.cell 4
              have kt5 := HTWt.out.cell 5
              have kt6 := HTWt.out.cell 6
              have kt7 := HTWt.out.cell 7
              have kt8 := HTWt.out.cell 8
              have kt9 := HTWt.out.cell 9
              have kt10 := HTWt.out.cell 10
              have kt11 := HTWt.out.cell 11
              have kt12 := HTWt.out.cell 12
              have kt13 := HTWt.out.cell 13
              have kt14 := HTWt.out.cell 14
              simp only [tabC, List.getElem?_cons_zero, List.getElem?_cons_succ] at kt0 kt1 kt2 kt3 kt4 kt5 kt6 kt7 kt8 kt9 kt10 kt11 kt12 kt13 kt14
              have b0 := HTWw.out.cell 0
              have b1 := HTWw.out.cell 1
              have b2 := HTWw.out.cell 2
              have b3 := HTWw.out.cell 3
              have b4 := HTWw.out.cell 4
              have b5 := HTWw.out.cell 5
              have b6 := HTWw.out.cell 6
              have b7 := HTWw.out.cell 7
              have b8 := HTWw.out.cell 8
              have b9 := HTWw.out.cell 9
              have bA := HTWw.out.cell 10
              have bB := HTWw.out.cell 11
              have bC := HTWw.out.cell 12
              simp only [worldC, List.getElem?_cons_zero, List.getElem?_cons_succ] at b0 b1 b2 b3 b4 b5 b6 b7 b8 b9 bA bB bC
              clear hnew
              have HLX : Hid ((ws.take u ++ [starK]).length = u + 1) := Lib.hid (by rw [List.length_append, List.length_take, HWM.out, List.length_singleton]; omega)
              have HWX : Hid (∀ w', Below w9.heap.size w9 w' → Wds w' (some ⟨g4, 0, none⟩) (ws.take u ++ [starK])) := Lib.hid (fun w' hb => by
                refine wds_own (ow_below HO4.out hb) (fun s hs => ?_) (by unfold maxLen; omega)
                rcases List.mem_append.1 hs with hs | hs
                · obtain ⟨j, hj, rfl⟩ := List.getElem_of_mem (List.mem_of_mem_take hs)
                  have h2 := H9.out j hj (by rw [HWM.out] at hj; exact hj)
                  unfold maxLen; omega
                · rw [List.mem_singleton.1 hs]; decide)
              have HCX : Hid (u + 1 ≤ cap4) := Lib.hid (ow_cap HO4.out)
              have HP3 := Lib.hid (fun w' (hb : Below w.heap.size w w') (hb5 : Below w9.heap.size w9 w') => HPA.out (some ⟨g4, 0, none⟩) (ws.take u ++ [starK]) cap4 w' hb (HWX.out w' hb5) (by rw [HLX.out]; exact HCX.out) (by rw [HLX.out]; omega))
              rw [HLX.out, HKS.out, HCU.out] at HP3
              have hk5 := HK9.out
              have y0 := hk5.cell 0
              have y1 := hk5.cell 1
              have y2 := hk5.cell 2
              have hz5 := hk5.lt
              simp only [List.getElem?_cons_zero, List.getElem?_cons_succ] at y0 y1 y2
              clear hk5
              have hz0 : w.heap.size < (w9).heap.size := HTW.out.bt.lt
              have hz1 : w.heap.size + 1 < (w9).heap.size := HTW.out.bw.lt
              go_wp2_with fail
              refine region_ways (.rd 0 (.rd 1 (.rd 2 (.rd 3 (.rd 5 (.one 4 (.one 6 (.one 7 (.one 8 (.one 9 (.one 10 .done))))))))))) (fun w' => Below w9.heap.size w9 w') (by kernel_rfl) (by kernel_rfl) ((Below.refl _ _).drew) (fun KK hKK => ?_)
              intro OPS
              simp only [Ways.see, List.getElem?_cons_zero, List.getElem?_cons_succ]
              refine' inWays_read ?_ ?_ ?_ ?_
              rotate_left 2
              · rfl
              · (intro w' hS; obtain ⟨hcc, hff⟩ := bcell hS; go_simp; first | done | with_reducible rfl)
              · (simp only [Act.put, List.setIfInBounds_toArray, List.set_cons_zero, List.set_cons_succ]; with_reducible rfl)
              refine' inWays_read ?_ ?_ ?_ ?_
              rotate_left 2
              · rfl
              · (intro w' hS; obtain ⟨hcc, hff⟩ := bcell hS; go_simp; first | done | with_reducible rfl)
              · (simp only [Act.put, List.setIfInBounds_toArray, List.set_cons_zero, List.set_cons_succ]; with_reducible rfl)
              refine' inWays_read ?_ ?_ ?_ ?_
              rotate_left 2
              · rfl
              · (intro w' hS; obtain ⟨hcc, hff⟩ := bcell hS; go_simp; first | done | with_reducible rfl)
              · (simp only [Act.put, List.setIfInBounds_toArray, List.set_cons_zero, List.set_cons_succ]; with_reducible rfl)
              refine' inWays_read ?_ ?_ ?_ ?_
              rotate_left 2
              · rfl
              · (intro w' hS; obtain ⟨hcc, hff⟩ := bcell hS; go_simp; first | done | with_reducible rfl)
              · (simp only [Act.put, List.setIfInBounds_toArray, List.set_cons_zero, List.set_cons_succ]; with_reducible rfl)
              refine' inWays_read ?_ ?_ ?_ ?_
              rotate_left 2
              · rfl
              · (intro w' hS; obtain ⟨hcc, hff⟩ := bcell hS; go_simp; first | done | with_reducible rfl)
              · (simp only [Act.put, List.setIfInBounds_toArray, List.set_cons_zero, List.set_cons_succ]; with_reducible rfl)
              refine' inWays_call ?_ ?_ ?_
              rotate_left 2
              · rfl
              · (obtain ⟨hcc, hff⟩ := bcell ((Below.refl w9.heap.size w9).drew); go_simp; first | done | exact ⟨rfl, rfl⟩)
              refine (HP3.out _ (bl_then HTW.out.bl ((Below.refl w9.heap.size w9).drew)) ((Below.refl w9.heap.size w9).drew)).mono ?_
              rintro e wA ⟨ap3, cp3, rfl, hip3, hbp3, _⟩
              have HBA : Hid (Below w9.heap.size w9 wA) := Lib.hid (bl_then ((Below.refl w9.heap.size w9).drew) hbp3)
              have HIR := Lib.hid hip3
              clear hip3 hbp3
              refine ⟨_, rfl, HBA.out, ?_⟩
              simp only [Act.put, List.setIfInBounds_toArray, List.set_cons_zero, List.set_cons_succ]
              dsimp only at HIR ⊢
              refine' inWays_call ?_ ?_ ?_
              rotate_left 2
              · rfl
              · (obtain ⟨hcc, hff⟩ := bcell HBA.out; go_simp; first | done | exact ⟨rfl, rfl⟩)
              refine (same36 ⟨l, u, 0⟩ ⟨l, u, 0⟩ ap3 ap cp3 cp _ HIR.out (HIP9.out.below HBA.out)).mono ?_
              rintro e wB ⟨rfl, hbB⟩
              have HBB : Hid (Below w9.heap.size w9 wB) := Lib.hid (bl_then HBA.out hbB)
              clear hbB
              refine ⟨_, rfl, HBB.out, ?_⟩
              rw [same_eq rfl rfl rfl]
              simp only [Act.put, List.setIfInBounds_toArray, List.set_cons_zero, List.set_cons_succ]
              refine' inWays_val ?_ ?_ ?_ ?_ ?_
              rotate_left 3
              · rfl
              · (obtain ⟨hcc, hff⟩ := bcell HBB.out; go_simp; first | done | exact ⟨rfl, rfl⟩ | with_reducible rfl)
              · exact HBB.out
              · (simp only [Act.put, List.setIfInBounds_toArray, List.set_cons_zero, List.set_cons_succ]; with_reducible rfl)
              refine' inWays_call ?_ ?_ ?_
              rotate_left 2
              · rfl
              · (obtain ⟨hcc, hff⟩ := bcell HBB.out; go_simp; first | done | exact ⟨rfl, rfl⟩)
              refine (HAW.out _).mono ?_
              rintro e wD ⟨rfl, hbD⟩
              have HBD : Hid (Below w9.heap.size w9 wD) := Lib.hid (bl_then HBB.out hbD)
              clear hbD
              refine ⟨_, rfl, HBD.out, ?_⟩
              simp only [Act.put, List.setIfInBounds_toArray, List.set_cons_zero, List.set_cons_succ]
              refine' inWays_val ?_ ?_ ?_ ?_ ?_
              rotate_left 3
              · rfl
              · (obtain ⟨hcc, hff⟩ := bcell HBD.out; go_simp; first | done | exact ⟨rfl, rfl⟩ | with_reducible rfl)
              · exact HBD.out
              · (simp only [Act.put, List.setIfInBounds_toArray, List.set_cons_zero, List.set_cons_succ]; with_reducible rfl)
              refine' inWays_val ?_ ?_ ?_ ?_ ?_
              rotate_left 3
              · rfl
              · (obtain ⟨hcc, hff⟩ := bcell HBD.out; go_simp; first | done | exact ⟨rfl, rfl⟩ | with_reducible rfl)
              · exact HBD.out
              · (simp only [Act.put, List.setIfInBounds_toArray, List.set_cons_zero, List.set_cons_succ]; with_reducible rfl)
              refine inWays_nil (hKK.out _ _ ?_)
              clear hKK OPS
              have HBE := Lib.hid (bl_then HTW.out.bl HBD.out)
              clear y0 y1 y2 hz5 hz0 hz1
              clear kt0 kt1 kt2 kt3 kt4 kt5 kt6 kt7 kt8 kt9 kt10 kt11 kt12 kt13 kt14
              clear b0 b1 b2 b3 b4 b5 b6 b7 b8 b9 bA bB bC
              clear HTWt HTWw
              go_wp2_with fail
              go_ret
              exact ⟨rfl, HBE.out⟩
            · have hr0 : (r == 0) = false := by simp [hr]
              go_wp2_with fail
              clear y0 y1 y2 hz5 hz0 hz1
              refine (HAW.out _).mono ?_
              rintro e w9 ⟨rfl, hb9⟩
              have HB9 := Lib.hid (bl_then HTW.out.bl hb9)
              clear hb9
              clear kt0 kt1 kt2 kt3 kt4 kt5 kt6 kt7 kt8 kt9 kt10 kt11 kt12 kt13 kt14
              clear b0 b1 b2 b3 b4 b5 b6 b7 b8 b9 bA bB bC
              clear HTWt HTWw
              go_wp2_with fail
              go_ret
              exact ⟨rfl, HB9.out⟩
end Go.Proofs.Ytjggklfegcejhaa
