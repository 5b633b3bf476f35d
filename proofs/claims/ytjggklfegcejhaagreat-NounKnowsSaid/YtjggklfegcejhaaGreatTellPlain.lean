/- Plain law of layers 20, 23 and 24: the things in a thing; the list of titles. -/
import Derived.Test.YtjggklfegcejhaaGreatBase
namespace Go.Proofs.YtjggklfegcejhaaGreat
set_option linter.unusedVariables false
set_option linter.unusedSimpArgs false

/-- A list of titles, as the program lays it behind the first one. -/
def tailP (an co : List UInt8) : List (List UInt8) → List UInt8
  | [] => []
  | [b] => an ++ b
  | b :: c :: t => co ++ b ++ tailP an co (c :: t)
/-- The same, as the reference goes. -/
def rowR (an co : List UInt8) : List (List UInt8) → List UInt8
  | [] => []
  | [a] => a
  | [a, b] => a ++ an ++ b
  | a :: b :: c :: t => a ++ co ++ rowR an co (b :: c :: t)
theorem row_tail (an co : List UInt8) : ∀ (t : List (List UInt8)) (a : List UInt8), rowR an co (a :: t) = a ++ tailP an co t
  | [], a => by simp [rowR, tailP]
  | [b], a => by simp [rowR, tailP]
  | b :: c :: t, a => by
    rw [rowR, row_tail an co (c :: t) b, tailP]
    simp
/-- One more title, and what is left. -/
theorem tail_step (an co : List UInt8) (b : List UInt8) (t : List (List UInt8)) : tailP an co (b :: t) = (if t = [] then an else co) ++ b ++ tailP an co t := by
  cases t with
  | nil => simp [tailP]
  | cons c t => simp [tailP]
/-- Is a number that of a thing, of so many? -/
def isW (n : Nat) (x : Int) : Bool := decide (1 ≤ x ∧ x < (n : Int))
def atW (l : List Int) (x : Int) : Int := l.getD x.toNat 0
/-- The things behind one another, so many at most. -/
def chainW (next : List Int) (n : Nat) : Nat → Int → List Int
  | 0, _ => []
  | k + 1, c => if isW n c = true then c :: chainW next n k (atW next c) else []
/-- The things in a thing. -/
def kidsW (child next : List Int) (n : Nat) (x : Int) : List Int := if isW n x = true then chainW next n n (atW child x) else []
theorem chain_is (next : List Int) (n : Nat) : ∀ k c, ∀ y ∈ chainW next n k c, isW n y = true
  | 0, _, y, h => by cases h
  | k + 1, c, y, h => by
    rw [chainW] at h
    split at h
    · rcases List.mem_cons.1 h with rfl | h'
      · assumption
      · exact chain_is next n k _ y h'
    · cases h
theorem chain_len (next : List Int) (n : Nat) : ∀ k c, (chainW next n k c).length ≤ k
  | 0, _ => Nat.le_refl _
  | k + 1, c => by
    rw [chainW]
    split
    · have := chain_len next n k (atW next c); simp; omega
    · simp
theorem kids_is {child next : List Int} {n : Nat} {x y : Int} (h : y ∈ kidsW child next n x) : isW n y = true := by
  unfold kidsW at h
  split at h
  · exact chain_is _ _ _ _ _ h
  · cases h
theorem kids_len (child next : List Int) (n : Nat) (x : Int) : (kidsW child next n x).length ≤ n := by
  unfold kidsW; split
  · exact chain_len _ _ _ _
  · simp
/-- The last of what a thing is in. -/
def topW (parent : List Int) (n : Nat) : Nat → Int → Int → Int
  | 0, _, o => o
  | k + 1, x, o => if isW n x = true then topW parent n k (atW parent x) x else o
/-- What is reached from a thing, so deep at most: the flags hidden (h), and what shows (s), as tests. -/
def reachW (kids : Int → List Int) (hid sho : Int → Bool) : Nat → Int → List Int
  | 0, _ => []
  | d + 1, x => (kids x).flatMap fun c => if hid c = true then [] else c :: (if sho c = true then reachW kids hid sho d c else [])
/-- A thing whose tree is no higher than d: the depth plays no part from there on. -/
def HighW (kids : Int → List Int) : Nat → Int → Prop
  | 0, x => kids x = []
  | d + 1, x => ∀ c ∈ kids x, HighW kids d c
theorem flat_congr {α β : Type} {f g : α → List β} : ∀ (l : List α), (∀ x ∈ l, f x = g x) → l.flatMap f = l.flatMap g
  | [], _ => rfl
  | a :: t, h => by simp only [List.flatMap_cons]; rw [h a (by simp), flat_congr t (fun x hx => h x (by simp [hx]))]
theorem reach_high (kids : Int → List Int) (hid sho : Int → Bool) : ∀ d x, HighW kids d x → ∀ e, d < e → reachW kids hid sho e x = reachW kids hid sho (d + 1) x
  | 0, x, h, e, he => by
    cases e with
    | zero => omega
    | succ e => rw [reachW, reachW]; rw [show kids x = [] from h]; rfl
  | d + 1, x, h, e, he => by
    cases e with
    | zero => omega
    | succ e =>
      rw [reachW, reachW]
      refine flat_congr _ fun c hc => ?_
      rw [reach_high kids hid sho d c (h c hc) e (by omega)]
/-- What a thing is in, from itself on, so many at most. -/
def upsW (parent : List Int) (n : Nat) : Nat → Int → List Int
  | 0, _ => []
  | k + 1, x => if isW n x = true then x :: upsW parent n k (atW parent x) else []
theorem ups_is (parent : List Int) (n : Nat) : ∀ k x, ∀ y ∈ upsW parent n k x, isW n y = true
  | 0, _, y, h => by cases h
  | k + 1, x, y, h => by
    rw [upsW] at h
    split at h
    · rcases List.mem_cons.1 h with rfl | h'
      · assumption
      · exact ups_is parent n k _ y h'
    · cases h
theorem ups_more (parent : List Int) (n : Nat) : ∀ k m x, k ≤ m → ∀ y ∈ upsW parent n k x, y ∈ upsW parent n m x
  | 0, _, _, _, y, h => by cases h
  | k + 1, 0, _, hk, _, _ => by omega
  | k + 1, m + 1, x, hk, y, h => by
    rw [upsW] at h ⊢
    split at h
    · rename_i hx
      rw [if_pos hx]
      rcases List.mem_cons.1 h with rfl | h'
      · exact List.mem_cons_self
      · exact List.mem_cons_of_mem _ (ups_more parent n k m _ (by omega) y h')
    · cases h
theorem nodup_bd : ∀ (n : Nat) (l : List Int), l.Nodup → (∀ x ∈ l, 1 ≤ x ∧ x < (n : Int) + 1) → l.length ≤ n
  | 0, l, _, h => by
    cases l with
    | nil => exact Nat.le_refl _
    | cons a t => have := h a (by simp); omega
  | n + 1, l, hd, h => by
    by_cases hm : ((n : Int) + 1) ∈ l
    · have h1 := nodup_bd n (l.erase ((n : Int) + 1)) (hd.erase _) (fun x hx => by
        have h2 := (hd.mem_erase_iff).1 hx
        have h3 := h x h2.2
        have h4 := h2.1
        omega)
      rw [List.length_erase_of_mem hm] at h1
      omega
    · have h1 := nodup_bd n l hd (fun x hx => by
        have h3 := h x hx
        have h4 : x ≠ (n : Int) + 1 := fun e => hm (e ▸ hx)
        omega)
      omega
/-- Of a world that is nested as it must be: what its children, and what it is in, say. -/
structure NestW (parent child next : List Int) (n : Nat) : Prop where
  up : ∀ x c, c ∈ kidsW child next n x → atW parent c = x
  no : ∀ x, isW n x = true → isW n (atW parent x) = true → x ∉ upsW parent n n (atW parent x)
theorem ups_nodup {parent child next : List Int} {n : Nat} (h : NestW parent child next n) : ∀ k x, k ≤ n → (upsW parent n k x).Nodup
  | 0, _, _ => List.nodup_nil
  | k + 1, x, hk => by
    rw [upsW]
    split
    · rename_i hx
      refine List.nodup_cons.2 ⟨fun hm => ?_, ups_nodup h k _ (by omega)⟩
      by_cases hp : isW n (atW parent x) = true
      · exact h.no x hx hp (ups_more parent n k n _ (by omega) x hm)
      · cases k with
        | zero => cases hm
        | succ k => rw [upsW, if_neg hp] at hm; cases hm
    · exact List.nodup_nil
theorem ups_len {parent child next : List Int} {n : Nat} (h : NestW parent child next n) (hn : 1 ≤ n) (x : Int) : (upsW parent n n x).length ≤ n - 1 := by
  refine nodup_bd (n - 1) _ (ups_nodup h n x (Nat.le_refl _)) fun y hy => ?_
  have := ups_is parent n n x y hy
  unfold isW at this
  have := of_decide_eq_true this
  omega
theorem ups_succ (parent : List Int) (n k : Nat) (x : Int) : upsW parent n (k + 1) x = if isW n x = true then x :: upsW parent n k (atW parent x) else [] := rfl
theorem ups_short (parent : List Int) (n : Nat) : ∀ k x, (upsW parent n (k + 1) x).length ≤ k → upsW parent n (k + 1) x = upsW parent n k x
  | 0, x, h => List.eq_nil_of_length_eq_zero (Nat.le_zero.1 h)
  | k + 1, x, h => by
    rw [ups_succ] at h ⊢
    rw [ups_succ parent n k x]
    by_cases hx : isW n x = true
    · rw [if_pos hx] at h ⊢
      rw [if_pos hx, ups_short parent n k (atW parent x) (by rw [List.length_cons] at h; omega)]
    · rw [if_neg hx, if_neg hx]
/-- No tree is higher than there are things above. -/
theorem high_of {parent child next : List Int} {n : Nat} (h : NestW parent child next n) (hn : 1 ≤ n) : ∀ d x, isW n x = true → n ≤ (upsW parent n n x).length + d + 1 → HighW (kidsW child next n) d x
  | 0, x, hx, hd => by
    refine List.eq_nil_iff_forall_not_mem.2 fun c hc => ?_
    have h1 := kids_is hc
    have h2 := h.up x c hc
    have h3 : upsW parent n n c = c :: upsW parent n (n - 1) x := by
      obtain ⟨m, rfl⟩ : ∃ m, n = m + 1 := ⟨n - 1, by omega⟩
      rw [upsW, if_pos h1, h2]; rfl
    have h4 := ups_len h hn c
    have h5 : upsW parent n n x = upsW parent n (n - 1) x := by
      obtain ⟨m, rfl⟩ : ∃ m, n = m + 1 := ⟨n - 1, by omega⟩
      exact ups_short parent _ m x (ups_len h hn x)
    rw [h3, List.length_cons, ← h5] at h4
    omega
  | d + 1, x, hx, hd => by
    intro c hc
    have h1 := kids_is hc
    have h2 := h.up x c hc
    refine high_of h hn d c h1 ?_
    have h3 : upsW parent n n c = c :: upsW parent n (n - 1) x := by
      obtain ⟨m, rfl⟩ : ∃ m, n = m + 1 := ⟨n - 1, by omega⟩
      rw [upsW, if_pos h1, h2]; rfl
    have h5 : upsW parent n n x = upsW parent n (n - 1) x := by
      obtain ⟨m, rfl⟩ : ∃ m, n = m + 1 := ⟨n - 1, by omega⟩
      exact ups_short parent _ m x (ups_len h hn x)
    rw [h3, List.length_cons, ← h5]
    omega
def countI (l : List Int) (x : Int) : Nat := (l.filter (fun y => y == x)).length
/-- What clewref19.Nested asks of each thing. -/
structure NestedP (parent child next : List Int) (n : Nat) : Prop where
  each : ∀ x, isW n x = true → (∀ c ∈ kidsW child next n x, atW parent c = x) ∧ (isW n (atW parent x) = true → x ∉ upsW parent n n (atW parent x))
theorem NestedP.nest {parent child next : List Int} {n : Nat} (h : NestedP parent child next n) : NestW parent child next n where
  up x c hc := by
    have hx : isW n x = true := by
      unfold kidsW at hc
      split at hc
      · assumption
      · cases hc
    exact (h.each x hx).1 c hc
  no x hx hp := (h.each x hx).2 hp
/-- The reference's reached, at the depth of all things, is what is reached at any greater depth. -/
theorem reach_nest {parent child next : List Int} {n : Nat} (h : NestW parent child next n) (hn : 1 ≤ n) (hid sho : Int → Bool) (x : Int) (hx : isW n x = true) (e : Nat) (he : n ≤ e) :
    reachW (kidsW child next n) hid sho e x = reachW (kidsW child next n) hid sho n x := by
  obtain ⟨m, rfl⟩ : ∃ m, n = m + 1 := ⟨n - 1, by omega⟩
  exact reach_high _ hid sho m x (high_of h hn m x hx (by omega)) e (by omega)
/-- Whether one of those reached has it. -/
theorem any_flat {α β : Type} (p : β → Bool) (f : α → List β) : ∀ l : List α, (l.flatMap f).any p = l.any (fun x => (f x).any p)
  | [] => rfl
  | a :: t => by simp [List.flatMap_cons, List.any_append, any_flat p f t]
/-- What the program lists of a thing, and what the reference does. -/
def listedW (kids : Int → List Int) (hid : Int → Bool) (x : Int) : List Int := (kids x).filter fun c => !hid c && !(c == 1)
theorem listed_mem {kids : Int → List Int} {hid : Int → Bool} {x c : Int} : c ∈ listedW kids hid x ↔ c ∈ kids x ∧ hid c = false ∧ c ≠ 1 := by
  unfold listedW; rw [List.mem_filter]; simp
theorem reach_kid {kids : Int → List Int} {hid sho : Int → Bool} {x c : Int} (d : Nat) (h : c ∈ kids x) (hh : hid c = false) : c ∈ reachW kids hid sho (d + 1) x := by
  rw [reachW, List.mem_flatMap]
  exact ⟨c, h, by rw [if_neg (by simp [hh])]; exact List.mem_cons_self⟩
end Go.Proofs.YtjggklfegcejhaaGreat
