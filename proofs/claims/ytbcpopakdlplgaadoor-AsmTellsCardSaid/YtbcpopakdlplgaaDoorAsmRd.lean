/- How lists of instructions and of bytes read. -/
import Derived.Test.YtbcpopakdlplgaaDoorCode
import Derived.Test.YtbcpopakdlplgaaDoorAsmMap
import Derived.Test.YtbcpopakdlplgaaDoorAsmA
namespace Go.Proofs.YtbcpopakdlplgaaDoor
open Go.RowKit Go.PlainAid
set_option linter.unusedVariables false
set_option linter.unusedSimpArgs false

def insC (x : IN) : List Value := [.int .i64 x.op, .int .i64 x.arg]
def InW (x : IN) : Prop := Wf x.op ∧ Wf x.arg
def Cd.ins : Cd IN := ⟨2, fun _ cs x => cs = insC x ∧ InW x, fun h => by rw [h.1]; rfl, fun h _ => h⟩
def Cd.byte : Cd UInt8 := ⟨1, fun _ cs x => cs = [.int .u8 (x.toNat : Int)], fun h => by rw [h]; rfl, fun h _ => h⟩
theorem ins_open {w : World} {v : Value} {l : List IN} (h : Reads Cd.ins.seq w v l) (hn : 0 < l.length) :
    ∃ b off cap, v = .slice (some ⟨b, off, none⟩) l.length cap ∧ l.length ≤ cap ∧ b < w.heap.size ∧ ∀ i (hi : i < l.length), InW l[i] ∧ w.cell? ⟨b, off + i * 2, none⟩ = some (.int .i64 l[i].op) ∧ w.cell? ⟨b, off + i * 2 + 1, none⟩ = some (.int .i64 l[i].arg) := by
  obtain ⟨b, off, cap, h1, h2, h3, h4⟩ := h.open hn
  refine ⟨b, off, cap, h1, h2, h3, fun i hi => ?_⟩
  obtain ⟨row, r1, ⟨r2, r4⟩, r3⟩ := h4 i hi
  subst r2
  exact ⟨r4, r3 0 (by decide), r3 1 (by decide)⟩
theorem byte_open {w : World} {v : Value} {l : List UInt8} (h : Reads Cd.byte.seq w v l) (hn : 0 < l.length) :
    ∃ b off cap, v = .slice (some ⟨b, off, none⟩) l.length cap ∧ l.length ≤ cap ∧ b < w.heap.size ∧ ∀ i (hi : i < l.length), w.cell? ⟨b, off + i, none⟩ = some (.int .u8 (l[i].toNat : Int)) := by
  obtain ⟨b, off, cap, h1, h2, h3, h4⟩ := h.open hn
  refine ⟨b, off, cap, h1, h2, h3, fun i hi => ?_⟩
  obtain ⟨row, r1, r2, r3⟩ := h4 i hi
  obtain rfl : row = [.int .u8 (l[i].toNat : Int)] := r2
  have := r3 0 (by decide)
  rw [show Cd.byte.k = 1 from rfl, Nat.mul_one, Nat.add_zero] at this
  exact this
theorem ins_wf {w : World} {v : Value} {l : List IN} (h : Reads Cd.ins.seq w v l) : ∀ x ∈ l, InW x := by
  intro x hx
  obtain ⟨i, hi, rfl⟩ := List.getElem_of_mem hx
  obtain ⟨b, off, cap, _, _, _, h4⟩ := ins_open h (by omega)
  exact (h4 i hi).1
theorem ow_capI {w : World} {base : Nat} {e : TypeId} {k : Nat} {v : Value} {n : Nat} {xs : List Value} (h : w.ownsRow base e k v n xs) : ∃ a cap, v = .slice a n cap ∧ n ≤ cap := by
  rcases h.2 with ⟨rfl, rfl⟩ | ⟨g, cap, cur, rfl, hbg, hg, hnc, hcm, hcs, htake⟩
  · exact ⟨_, _, rfl, Nat.le_refl _⟩
  · exact ⟨_, cap, rfl, hnc⟩
theorem Tryd.infoIns : (Tryd.prog.info? 37).map (fun i => (i.zero, i.size, i.bytes)) = some (some (.agg #[.int .i64 0, .int .i64 0]), 2, 16) := by kernel_rfl
theorem Tryd.infoByte : (Tryd.prog.info? 5).map (fun i => (i.zero, i.size, i.bytes)) = some (some (.int .u8 0), 1, 1) := by kernel_rfl
theorem Tryd.infoInt : (Tryd.prog.info? 3).map (fun i => (i.zero, i.size, i.bytes)) = some (some (.int .i64 0), 1, 8) := by kernel_rfl
/-- Instructions that the call owns. -/
def OwI (w : World) (base : Nat) (v : Value) (L : List IN) : Prop := w.ownsRow base 37 2 v L.length ((L.map insC).flatten)
theorem OwI.nil (w : World) (base : Nat) : OwI w base (.slice none 0 0) [] := World.ownsRow_nil _ _ _ _
theorem OwI.snoc {w : World} {base : Nat} {v : Value} {L : List IN} {x : IN} (h : w.ownsRow base 37 2 v (L.length + 1) ((L.map insC).flatten ++ insC x)) : OwI w base v (L ++ [x]) := by
  unfold OwI; simpa using h
theorem OwI.reads {w : World} {base : Nat} {v : Value} {L : List IN} (h : OwI w base v L) (hm : L.length ≤ maxLen) (hok : ∀ x ∈ L, InW x) : Reads Cd.ins.seq w v L := by
  have h1 : SLN 2 w v (L.map insC) := SLN.own h (by simp) (fun r hr => by obtain ⟨x, _, rfl⟩ := List.mem_map.1 hr; rfl) hm
  obtain ⟨a, cap, e, hle⟩ := ow_capI h
  exact ⟨v, _, rfl, ⟨h1, a, cap, by simpa using e, by simpa using hle⟩, by simp, fun i h1 h2 => ⟨by simp, hok _ (List.getElem_mem h2)⟩⟩
def byteV (c : UInt8) : Value := .int .u8 (c.toNat : Int)
/-- Bytes that the call owns. -/
def OwB (w : World) (base : Nat) (v : Value) (L : List UInt8) : Prop := w.ownsRow base 5 1 v L.length (L.map byteV)
theorem OwB.nil (w : World) (base : Nat) : OwB w base (.slice none 0 0) [] := World.ownsRow_nil _ _ _ _
theorem OwB.app {w : World} {base : Nat} {v : Value} {L X : List UInt8} (h : w.ownsRow base 5 1 v (L.length + X.length) (L.map byteV ++ X.map byteV)) : OwB w base v (L ++ X) := by
  unfold OwB; simpa using h
theorem OwB.reads {w : World} {base : Nat} {v : Value} {L : List UInt8} (h : OwB w base v L) (hm : L.length ≤ maxLen) : Reads Cd.byte.seq w v L := by
  have hf : ∀ L : List UInt8, L.map byteV = (L.map (fun x => [byteV x])).flatten := fun L => by
    induction L with
    | nil => rfl
    | cons a t ih => simp [ih]
  have h1 : SLN 1 w v (L.map (fun x => [byteV x])) := by
    unfold OwB at h
    rw [hf L] at h
    exact SLN.own h (by simp) (fun r hr => by obtain ⟨x, _, rfl⟩ := List.mem_map.1 hr; rfl) hm
  obtain ⟨a, cap, e, hle⟩ := ow_capI h
  exact ⟨v, _, rfl, ⟨h1, a, cap, by simpa using e, by simpa using hle⟩, by simp, fun i h1 h2 => by simp [Cd.byte, byteV]⟩
theorem nil_reads {α : Type} {c : Cd α} (w : World) : Reads c.seq w (.slice none 0 0) [] := ⟨_, [], rfl, ⟨SLN.nil _ _ _ _, none, 0, rfl, Nat.le_refl _⟩, rfl, fun i h => by cases h⟩
end Go.Proofs.YtbcpopakdlplgaaDoor
