/- Contract of clewlaw38.awake: it answers true. -/
import Derived.Test.YtgheiadnjnnjfaaSplit3
import Derived.Test.YtgheiadnjnnjfaaMessage
namespace Go.Proofs.Ytgheiadnjnnjfaa
open Go.RowKit Go.PlainAid

/-- A literal slice that has just been laid. -/
theorem SL.lit (w : World) (cs : Array Value) (e : TypeId) (c n : Nat) (hn : cs.size = n) (hm : n ≤ maxLen) : SL (w.alloc (.cells cs e)) (.slice (some ⟨w.heap.size, 0, none⟩) n c) cs.toList := by
  subst hn
  refine ⟨by simpa using hm, .inr ⟨w.heap.size, 0, c, by simp, by rw [World.size_alloc]; omega, fun i h => ?_⟩⟩
  have h' : i < cs.size := by simpa using h
  rw [Nat.zero_add, World.cell?_alloc_mark]
  simp [h']

theorem one_alloc (w : World) (o : Obj) : Below w.heap.size w (w.alloc o) := (Below.refl _ _).alloc (Nat.le_refl _) _
/-- A literal of three lists of texts. -/
theorem LL.lit3 (w : World) (a b c : List ByteArray) (te tl : TypeId) (na nb nc ca cb cc cd : Nat) (ha : a.length = na) (hb : b.length = nb) (hc : c.length = nc) (hm : na ≤ maxLen ∧ nb ≤ maxLen ∧ nc ≤ maxLen) (s0 s1 s2 s3 : Nat) (e0 : s0 = w.heap.size) (e1 : s1 = w.heap.size + 1) (e2 : s2 = w.heap.size + 1 + 1) (e3 : s3 = w.heap.size + 1 + 1 + 1) :
    LL ((((w.alloc (.cells (a.map Value.string).toArray te)).alloc (.cells (b.map Value.string).toArray te)).alloc (.cells (c.map Value.string).toArray te)).alloc
      (.cells #[.slice (some ⟨s0, 0, none⟩) na ca, .slice (some ⟨s1, 0, none⟩) nb cb, .slice (some ⟨s2, 0, none⟩) nc cc] tl)) (.slice (some ⟨s3, 0, none⟩) 3 cd) [a, b, c] := by
  subst e0; subst e1; subst e2; subst e3
  have h1 := SL.lit w (a.map Value.string).toArray te ca na (by simp [ha]) hm.1
  have h2 := SL.lit (w.alloc (.cells (a.map Value.string).toArray te)) (b.map Value.string).toArray te cb nb (by simp [hb]) hm.2.1
  have h3 := SL.lit ((w.alloc (.cells (a.map Value.string).toArray te)).alloc (.cells (b.map Value.string).toArray te)) (c.map Value.string).toArray te cc nc (by simp [hc]) hm.2.2
  have h4 := SL.lit (((w.alloc (.cells (a.map Value.string).toArray te)).alloc (.cells (b.map Value.string).toArray te)).alloc (.cells (c.map Value.string).toArray te)) #[.slice (some ⟨w.heap.size, 0, none⟩) na ca, .slice (some ⟨w.heap.size + 1, 0, none⟩) nb cb, .slice (some ⟨w.heap.size + 1 + 1, 0, none⟩) nc cc] tl cd 3 rfl (by decide)
  simp only [World.size_alloc] at h1 h2 h3 h4
  refine ⟨_, h4, rfl, fun i h h' => ?_⟩
  match i, h, h' with
  | 0, _, _ => exact ((h1.below (one_alloc _ _)).below (one_alloc _ _)).below (one_alloc _ _)
  | 1, _, _ => exact (h2.below (one_alloc _ _)).below (one_alloc _ _)
  | 2, _, _ => exact h3.below (one_alloc _ _)

theorem awake38 (w : World) : Calls Try.prog 6 #[] w fun e w' => e = .returned (.bool true) ∧ Below w.heap.size w w' := by
  have hE := Lib.hid (show splitE ⟨#[84, 97, 107, 101, 32, 108, 97, 109, 112, 46, 32, 103, 111, 32, 110, 32, 116, 104, 101, 110, 32, 108, 111, 111, 107]⟩ = 0 by decide +kernel)
  have hL := Lib.hid (show splitL ⟨#[84, 97, 107, 101, 32, 108, 97, 109, 112, 46, 32, 103, 111, 32, 110, 32, 116, 104, 101, 110, 32, 108, 111, 111, 107]⟩ = [[⟨#[116, 97, 107, 101]⟩, ⟨#[108, 97, 109, 112]⟩], [⟨#[103, 111]⟩, ⟨#[110]⟩], [⟨#[108, 111, 111, 107]⟩]] by decide +kernel)
  have hM1 := show msgS 8 (msgW [⟨#[102, 111, 111]⟩] 0) = ⟨#[73, 32, 100, 111, 110, 39, 116, 32, 117, 110, 100, 101, 114, 115, 116, 97, 110, 100, 32, 102, 111, 111, 46, 10]⟩ by decide +kernel
  have hM2 := show msgS 19 (msgW [] 0) = ⟨#[84, 104, 97, 116, 32, 99, 97, 110, 39, 116, 32, 98, 101, 46, 10]⟩ by decide +kernel
  go_enter Try.func6, Try.ntmps6
  go_wp2_with (go_at_call 7; refine (cmdSplit _ _ (by decide +kernel)).mono ?_; rintro e w1 ⟨v1, rfl, h1, hb1⟩; rw [hE.out]; rw [hL.out] at h1; have H1 := Lib.hid h1; clear h1)
  refine (cmdMsg _ [⟨#[102, 111, 111]⟩] _ 8 0 _ (SL.lit _ _ _ _ _ rfl (by decide)) (by decide +kernel)).mono ?_
  rintro e w' ⟨rfl, rfl⟩
  go_wp2_with fail
  refine (cmdMsg _ [] _ 19 0 _ (SL.nil _ _ _) (by simp)).mono ?_
  rintro e w' ⟨rfl, rfl⟩
  go_wp2_with fail
  refine (lists_true _ _ [[⟨#[116, 97, 107, 101]⟩, ⟨#[108, 97, 109, 112]⟩], [⟨#[103, 111]⟩, ⟨#[110]⟩], [⟨#[108, 111, 111, 107]⟩]] _ ?_ ?_).mono ?_
  · exact (((((((H1.out.below (one_alloc _ _)).below (one_alloc _ _)).below (one_alloc _ _)).below (one_alloc _ _)).below (one_alloc _ _)).below (one_alloc _ _)).below (one_alloc _ _))
  · exact LL.lit3 _ [⟨#[116, 97, 107, 101]⟩, ⟨#[108, 97, 109, 112]⟩] [⟨#[103, 111]⟩, ⟨#[110]⟩] [⟨#[108, 111, 111, 107]⟩] _ _ 2 2 1 _ _ _ _ rfl rfl rfl (by decide) _ _ _ _ (by simp only [World.size_alloc]) (by simp only [World.size_alloc]) (by simp only [World.size_alloc]) (by simp only [World.size_alloc])
  rintro e w' ⟨rfl, n, rfl⟩
  go_wp2
  go_ret
  have hsz := hb1.size
  exact ⟨rfl, below_drewN (by go_grown) n⟩
end Go.Proofs.Ytgheiadnjnnjfaa
