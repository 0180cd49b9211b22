/- BuildKeeps: its awake. -/
import Derived.Test.YtokbjopmfcggdaaSmall
import Derived.Test.YtokbjopmfcggdaaMakeF
namespace Go.Proofs.Ytokbjopmfcggdaa
open Go.RowKit
set_option linter.unusedVariables false
set_option linter.unusedSimpArgs false
set_option linter.unnecessarySimpa false

def coreK : Core := .mk 7 0 [.mk 1 0 [], .mk 5 1 []]
theorem coreK_at {w : World} {blk : Nat} (h : Blk w blk #[.int .i64 1, .int .i64 0, .slice none 0 0, .int .i64 5, .int .i64 1, .slice none 0 0] 25) : CoreAt (fun x => x = blk) w coreK (.agg #[.int .i64 7, .int .i64 0, .slice (some ⟨blk, 0, none⟩) 2 2]) := by
  unfold coreK CoreAt
  refine ⟨_, [.int .i64 1, .int .i64 0, .slice none 0 0, .int .i64 5, .int .i64 1, .slice none 0 0], rfl, ⟨rfl, some ⟨blk, 0, none⟩, 2, rfl, Nat.le_refl _, by decide, by simp, fun _ => ⟨blk, 0, _, _, (0, 0), rfl, rfl, h, fun j u hu => by simpa using hu⟩⟩, ?_⟩
  have hn : ∀ k c : Int, CoreAt (fun x => x = blk) w (.mk k c []) (.agg #[.int .i64 k, .int .i64 c, .slice none 0 0]) := by
    intro k c
    unfold CoreAt
    exact ⟨_, [], rfl, RowAt.nil _ _ _, by unfold CoresAt; rfl⟩
  unfold CoresAt
  refine ⟨_, _, _, _, rfl, hn 1 0, ?_⟩
  unfold CoresAt
  refine ⟨_, _, _, _, rfl, hn 5 1, ?_⟩
  unfold CoresAt
  rfl
theorem coreK_size : csize coreK = 3 := by simp [coreK, csize, csizes]
theorem coreK_need : need coreK = 2 := by simp [coreK, need, needs]
theorem coreK_make : makeF 9 [] coreK [0] 5 = ((1, 6, 0), [some ⟨6, 1, []⟩, some ⟨3, 5, [0, 0]⟩]) := by
  have hb : boundC coreK 1 = true := by simp [boundC, coreK, slotsC, slotsA, seenC, seenA, partsK]
  have h1 : room [] 9 (2 : Nat) = true := by simp [room, cnt]
  unfold makeF
  rw [show ((([0] : List Int).length : Nat) : Int) = 1 from rfl, hb, if_pos rfl, coreK_need, h1, if_pos rfl]
  simp [coreK, mkC, mkA, putR, cnt, freeAt, gput, putAt, kindK, envM, iset, iget, List.findIdx_cons]

set_option maxHeartbeats 2000000 in
set_option maxRecDepth 100000 in
theorem law23_awake (w : World) : Calls Try.prog 5 #[] w (RetBool w true) := by
  go_enter Try.func5, Try.ntmps5
  go_wp2_with fail
  have bC := (Blk.new w #[.int .i64 1, .int .i64 0, .slice none 0 0, .int .i64 5, .int .i64 1, .slice none 0 0] 25).alloc (.cells #[.int .i64 7, .int .i64 0, .slice (some ⟨w.heap.size, 0, none⟩) 2 2] 25)
  have bB : Blk ((w.alloc (.cells #[.int .i64 1, .int .i64 0, .slice none 0 0, .int .i64 5, .int .i64 1, .slice none 0 0] 25)).alloc (.cells #[.int .i64 7, .int .i64 0, .slice (some ⟨w.heap.size, 0, none⟩) 2 2] 25)) (w.heap.size + 1) #[.int .i64 7, .int .i64 0, .slice (some ⟨w.heap.size, 0, none⟩) 2 2] 25 := by simpa using Blk.new (w.alloc (.cells #[.int .i64 1, .int .i64 0, .slice none 0 0, .int .i64 5, .int .i64 1, .slice none 0 0] 25)) #[.int .i64 7, .int .i64 0, .slice (some ⟨w.heap.size, 0, none⟩) 2 2] 25
  have kw : Keeps [] w ((w.alloc (.cells #[.int .i64 1, .int .i64 0, .slice none 0 0, .int .i64 5, .int .i64 1, .slice none 0 0] 25)).alloc (.cells #[.int .i64 7, .int .i64 0, .slice (some ⟨w.heap.size, 0, none⟩) 2 2] 25)) := ((Keeps.refl _ _).alloc _).alloc _
  refine (node_new 9 _).mono ?_
  rintro e w1 ⟨g, F, rfl, hgw, hFw, hG, hk⟩
  have bC1 := bC.keep hk (by simp)
  have bB1 := bB.keep hk (by simp)
  have kw1 := kw.trans0 hk
  have hFw' : ∀ x ∈ F, w.heap.size + 2 ≤ x := fun x hx => by simpa using hFw x hx
  have hG' : GrAt w1 g F (fun x => x < w.heap.size) [] 9 := hG.apart (fun x hx _ => by simp; omega)
  obtain ⟨x0, x1, x2⟩ := cells3 bB1
  have H1 := Lib.hid (And.intro hG' (And.intro hFw' (And.intro bC1 (And.intro bB1 kw1))))
  clear hgw hFw hG hk bC bB kw bC1 bB1 kw1 hFw' hG'
  go_wp2_with fail
  obtain ⟨hG, hF, bC, bB, kw⟩ := H1.out
  have hFl := hG.lt.1
  have hbl := bC.lt
  have bL := Blk.new w1 #[.int .i64 0] 3
  have kx : Keeps [] w1 (w1.alloc (.cells #[.int .i64 0] 3)) := (Keeps.refl _ _).alloc _
  have hrow : RowAt (fun x => x = w1.heap.size) (w1.alloc (.cells #[.int .i64 0] 3)) 1 (.slice (some ⟨w1.heap.size, 0, none⟩) 1 1) [0].length (ints [0]) := ⟨rfl, some ⟨w1.heap.size, 0, none⟩, 1, rfl, Nat.le_refl _, by decide, by simp, fun _ => ⟨w1.heap.size, 0, _, _, (0, 0), rfl, rfl, bL, fun j u hu => by simpa [ints] using hu⟩⟩
  refine (build_Make (c := coreK) (l := [0]) (by rw [coreK_size]; omega) (by decide) (coreK_at (bC.keep kx (by simp))) (fun x hx => by subst hx; exact ⟨by simp; omega, fun hh => by have := hF _ hh; omega⟩) hrow (fun x hx => by subst hx; simp) (hG.keep0 kx) (fun x hx => by have := kw.size; simp; omega) (by decide) (by rw [coreK_size]; omega)).mono ?_
  rintro e w2 ⟨F2, rfl, hg2, hk2, hF2⟩
  rw [coreK_make] at hg2 ⊢
  have bC2 := (bC.keep kx (by simp)).keep hk2 (fun hh => by have := hF _ hh; omega)
  have bB2 := (bB.keep kx (by simp)).keep hk2 (fun hh => by have := hF _ hh; omega)
  have kw2 : Keeps [] w w2 := (kw.trans0 kx).trans hk2 (fun x hx => .inr (by have := hF x hx; omega))
  have hN := fun w' (k : Keeps [] w2 w') => build_need 3 (fun x => x = w.heap.size) w' coreK _ (by rw [coreK_size]; omega) (by omega) (coreK_at (bC2.keep k (by simp))) (fun b hb => by subst hb; exact (bC2.keep k (by simp)).lt)
  rw [coreK_need] at hN
  have H2 := Lib.hid (And.intro hg2 (And.intro kw2 (And.intro bB2 hN)))
  clear hG hF bC bB kw hFl hbl bL kx hrow hg2 hk2 hF2 bC2 bB2 kw2 hN H1 x0 x1 x2
  go_wp2_with fail
  refine (node_get H2.out.1 1).mono ?_
  rintro e w3 ⟨v', rfl, ho, hk3⟩
  have hG : gget [some ⟨6, 1, []⟩, some ⟨3, 5, [0, 0]⟩] 1 = some ⟨3, 5, [0, 0]⟩ := by decide
  rw [hG] at ho ⊢
  have e0 : nd0 (some ⟨3, 5, [0, 0]⟩) = ⟨3, 5, [0, 0]⟩ := rfl
  rw [e0] at ho ⊢
  obtain ⟨va, vac, rfl, _⟩ := ownsRow_zero ho
  obtain ⟨x0, x1, x2⟩ := cells3 (H2.out.2.2.1.keep hk3 (by simp))
  have hlt3 := (H2.out.2.2.1.keep hk3 (by simp)).lt
  have H3 := Lib.hid (And.intro (H2.out.2.1.trans0 hk3) hk3)
  clear ho hk3 hG e0
  go_wp2_with (go_at_call 24; refine (H2.out.2.2.2 _ (by exact H3.out.2.alloc _)).mono ?_; rintro e w4 ⟨rfl, hk4⟩; have H4 := Lib.hid hk4; have bn := (Blk.new w3 _ _).keep hk4 (by simp); obtain ⟨n0, n1, n2⟩ := cells3 bn; clear hk4 bn)
  go_ret
  exact RetBool.mk rfl ((H3.out.1.alloc _).trans0 H4.out)

end Go.Proofs.Ytokbjopmfcggdaa
