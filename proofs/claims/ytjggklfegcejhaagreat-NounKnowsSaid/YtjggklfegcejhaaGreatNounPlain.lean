/- Plain law of layer 36: the things that words mean; words come as keys. -/
import Derived.Test.YtjggklfegcejhaaGreatDictPlain
import Derived.Test.YtjggklfegcejhaaGreatTab
namespace Go.Proofs.YtjggklfegcejhaaGreat
set_option linter.unusedVariables false
set_option linter.unusedSimpArgs false

def theL : List TxC := [[116, 104, 101], [97], [97, 110]]
def andL : List TxC := [[97, 110, 100], [44]]
def allL : List TxC := [[97, 108, 108], [101, 118, 101, 114, 121, 116, 104, 105, 110]]
def butL : List TxC := [[101, 120, 99, 101, 112, 116], [98, 117, 116]]
def itK : TxC := [105, 116]
/-- Has a thing a word? -/
def hasT (y : ThC) (k : TxC) : Bool := y.wd.contains k || y.ad.contains k
def hasX (t : TbC) (x : Int) (k : TxC) : Bool := match t.th[x.toNat]? with
  | some y => hasT y k
  | none => false
/-- Do words mean a thing? -/
def isN (t : TbC) (x : Int) (ks : List TxC) : Bool := decide (1 ≤ x ∧ x < (t.th.length : Int)) && (match t.th[x.toNat]? with
  | some y => !ks.isEmpty && ks.all (hasT y) && y.wd.contains (ks.getLastD [])
  | none => false)
def knownN (t : TbC) (seen : List Int) (k : TxC) : Bool := seen.any fun x => hasX t x k
/-- Where the words begin, behind an article. -/
def artN (ks : List TxC) : Nat := match ks with
  | k :: _ => if theL.contains k = true then 1 else 0
  | [] => 0
/-- What comes of the things that all words mean. -/
def resN (F : List Int) (u : Nat) : Int × Nat × Int := match F with
  | [] => (0, u, 11)
  | [x] => (x, u, 0)
  | _ => (0, u, 10)
theorem res_used (F : List Int) (u : Nat) : (resN F u).2.1 = u := by unfold resN; split <;> rfl
/-- The one thing that words mean: it, how many words, what is wrong. -/
def oneN (t : TbC) (seen : List Int) (sit : Bool) (it : Int) (ks : List TxC) : Int × Nat × Int :=
  match ks.drop (artN ks) with
  | [] => (0, 0, 2)
  | k :: _ =>
    if k = itK then (if sit = true then (it, artN ks + 1, 0) else (0, artN ks + 1, 11))
    else
      let m := ((ks.drop (artN ks)).takeWhile (knownN t seen)).length
      if m = 0 then (0, artN ks, 11)
      else resN (seen.filter (fun x => isN t x ((ks.drop (artN ks)).take m))) (artN ks + m)
theorem art_le (ks : List TxC) : artN ks ≤ ks.length := by
  unfold artN
  cases ks with
  | nil => exact Nat.le_refl _
  | cons k t => simp only [List.length_cons]; split <;> omega
theorem one_used (t : TbC) (seen : List Int) (sit : Bool) (it : Int) (ks : List TxC) : (oneN t seen sit it ks).2.1 ≤ ks.length := by
  have h1 := art_le ks
  unfold oneN
  cases hd : ks.drop (artN ks) with
  | nil => exact Nat.zero_le _
  | cons k r =>
    have h2 : (ks.drop (artN ks)).length = r.length + 1 := by rw [hd]; rfl
    rw [List.length_drop] at h2
    simp only
    split
    · split <;> (simp only; omega)
    · have h3 : ((k :: r).takeWhile (knownN t seen)).length ≤ r.length + 1 := by
        have := (List.takeWhile_sublist (l := k :: r) (knownN t seen)).length_le
        simpa using this
      split
      · simp only; omega
      · rw [res_used]; omega
/-- A phrase. -/
structure PhC where
  th : List Int
  us : Nat
  er : Int
def itemN (r : Int × Nat × Int) : PhC := if r.2.2 = 0 then ⟨[r.1], r.2.1, 0⟩ else ⟨[], r.2.1, r.2.2⟩
def addN (l : List Int) (x : Int) : List Int := if l.contains x = true then l else l ++ [x]
/-- A list of things: so many rounds at most; from a word on; what is there already. -/
def listN (one : List TxC → Int × Nat × Int) (ks : List TxC) : Nat → Nat → List Int → PhC
  | 0, u, l => ⟨l, u, 0⟩
  | f + 1, u, l =>
    let r := one (ks.drop u)
    if r.2.2 = 0 then
      (if u + r.2.1 + 1 < ks.length ∧ andL.contains (ks.getD (u + r.2.1) []) = true then listN one ks f (u + r.2.1 + 1) (addN l r.1)
       else ⟨addN l r.1, u + r.2.1, 0⟩)
    else ⟨[], u + r.2.1, r.2.2⟩
/-- All that one would mean. -/
def allN (vis car : List Int) : List Int := if vis.filter (fun x => !car.contains x) = [] then car else vis.filter (fun x => !car.contains x)
def leftN (vis car but : List Int) : List Int := (allN vis car).filter fun x => !but.contains x
def manyN (one : List TxC → Int × Nat × Int) (vis car : List Int) (ks : List TxC) : PhC :=
  match ks with
  | [] => listN one ks (ks.length + 1) 0 []
  | k :: r =>
    if allL.contains k = true then
      (match r with
       | [] => if leftN vis car [] = [] then ⟨[], 1, 11⟩ else ⟨leftN vis car [], 1, 0⟩
       | b :: q =>
         if butL.contains b = true then
           let p := listN one q (q.length + 1) 0 []
           if p.er = 0 then (if leftN vis car p.th = [] then ⟨[], 2 + p.us, 11⟩ else ⟨leftN vis car p.th, 2 + p.us, 0⟩)
           else ⟨[], 2 + p.us, p.er⟩
         else if leftN vis car [] = [] then ⟨[], 1, 11⟩ else ⟨leftN vis car [], 1, 0⟩)
    else listN one ks (ks.length + 1) 0 []
def parseN (one : List TxC → Int × Nat × Int) (vis car : List Int) (ks : List TxC) (many : Bool) : PhC := if many = true then manyN one vis car ks else itemN (one ks)
end Go.Proofs.YtjggklfegcejhaaGreat
