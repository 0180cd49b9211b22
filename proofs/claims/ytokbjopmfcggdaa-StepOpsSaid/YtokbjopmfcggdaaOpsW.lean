/- StepOps: its awake. -/
import Derived.Test.YtokbjopmfcggdaaOpsC
namespace Go.Proofs.Ytokbjopmfcggdaa
open Go.RowKit
set_option linter.unusedVariables false
set_option linter.unusedSimpArgs false
set_option linter.unnecessarySimpa false

theorem opCore_at {w : World} {blk : Nat} {op a b : Int} (h : Blk w blk #[.int .i64 5, .int .i64 a, .slice none 0 0, .int .i64 5, .int .i64 b, .slice none 0 0] 25) : CoreAt (fun x => x = blk) w (opCore op a b) (.agg #[.int .i64 8, .int .i64 op, .slice (some ⟨blk, 0, none⟩) 2 2]) := by
  unfold opCore CoreAt
  refine ⟨_, [.int .i64 5, .int .i64 a, .slice none 0 0, .int .i64 5, .int .i64 b, .slice none 0 0], rfl, ⟨rfl, some ⟨blk, 0, none⟩, 2, rfl, Nat.le_refl _, by decide, by simp, fun _ => ⟨blk, 0, _, _, (0, 0), rfl, rfl, h, fun j u hu => by simpa using hu⟩⟩, ?_⟩
  have hn : ∀ c : Int, CoreAt (fun x => x = blk) w (.mk 5 c []) (.agg #[.int .i64 5, .int .i64 c, .slice none 0 0]) := by
    intro c
    unfold CoreAt
    exact ⟨_, [], rfl, RowAt.nil _ _ _, by unfold CoresAt; rfl⟩
  unfold CoresAt
  refine ⟨_, _, _, _, rfl, hn a, ?_⟩
  unfold CoresAt
  refine ⟨_, _, _, _, rfl, hn b, ?_⟩
  unfold CoresAt
  rfl

/-- The machine with the three nodes. -/
structure At3 (w : World) (op a b : Int) (most : Nat) (m g : Nat) (F : List Nat) (wx : World) : Prop where
  mach : MachAt wx m g F (fun x => x < w.heap.size) (graph3 op a b) most (.slice none 0 0) (.slice none 0 0) (.slice none 0 0) 0 0
  k : Keeps [] w wx
  new : ∀ x ∈ m :: F, w.heap.size ≤ x

theorem add3 {w w2 : World} {op a b : Int} {most m g blk : Nat} {F : List Nat} (hmost : 3 ≤ most) (hb : Blk w2 blk #[.int .i64 5, .int .i64 a, .slice none 0 0, .int .i64 5, .int .i64 b, .slice none 0 0] 25) (hbF : blk ∉ F)
    (hM : MachAt w2 m g F (fun x => x < w.heap.size) [] most (.slice none 0 0) (.slice none 0 0) (.slice none 0 0) 0 0) (hk : Keeps [] w w2) (hn : ∀ x ∈ m :: F, w.heap.size ≤ x) :
    Calls Try.prog 19 #[.pointer (some ⟨m, 0, none⟩), .agg #[.int .i64 8, .int .i64 op, .slice (some ⟨blk, 0, none⟩) 2 2], .slice none 0 0] w2 (fun e w' => e = .returned (.tuple #[.int .i64 2, .int .i64 0]) ∧ ∃ F', At3 w op a b most m g F' w') := by
  refine (step_add (c := opCore op a b) (l := []) (T := fun _ => False) (by rw [opCore_size]; omega) (by decide) (opCore_at hb) (fun x hx => by subst hx; exact ⟨hb.lt, hbF⟩) (RowAt.nil _ _ _) (fun b hb => hb.elim) hM (fun x hx => Nat.lt_of_lt_of_le hx hk.size) (by decide) (by rw [opCore_size]; omega)).mono ?_
  rintro e w' ⟨F', he, hm', hk', hF'⟩
  rw [opCore_make most hmost] at he hm'
  refine ⟨he, F', hm', hk.trans hk' (fun x hx => .inr (hn x hx)), fun x hx => ?_⟩
  rcases List.mem_cons.1 hx with rfl | hx
  · exact hn _ (by simp)
  · rcases hF' x hx with h1 | h1
    · exact hn _ (by simp [h1])
    · have := hk.size; omega

def Stepped (w : World) (op a b : Int) (most m g : Nat) (F : List Nat) (e : Ending) (w' : World) : Prop :=
  e = .returned (.int .i64 (opR (graph3 op a b) 2 op a b).1) ∧ Keeps [] w w' ∧ ∃ st, MachAt w' m g F (fun x => x < w.heap.size) (opR (graph3 op a b) 2 op a b).2 most (.slice none 0 0) (.slice none 0 0) (.slice none 0 0) 0 st
theorem step3 {w w3 : World} {op a b : Int} {most m g : Nat} {F : List Nat} (h : At3 w op a b most m g F w3) : Calls Try.prog 20 #[.pointer (some ⟨m, 0, none⟩), .int .i64 2] w3 (Stepped w op a b most m g F) := by
  obtain ⟨g0, g1, g2⟩ := graph3_gets op a b
  obtain ⟨f0, f1, f2⟩ := graph3_follow op a b
  refine (step_Step h.mach (fun x hx => Nat.lt_of_lt_of_le hx h.k.size) (by decide) (by decide) 2 (op := op) (x := 0) (y := 1) (a := a) (b := b) (by rw [f2]; exact g2) _ _ (by rw [f0]; exact g0) rfl rfl (by rw [f1]; exact g1) rfl rfl).mono ?_
  rintro e w' ⟨rfl, hm', hk'⟩
  rw [f2] at hm' ⊢
  exact ⟨rfl, h.k.trans hk' (fun x hx => .inr (h.new x hx)), _, hm'⟩

set_option maxHeartbeats 2000000 in
set_option maxRecDepth 100000 in
theorem law24_awake (w : World) : Calls Try.prog 17 #[] w (RetBool w true) := by
  go_enter Try.func17, Try.ntmps17
  go_wp2_with fail
  refine (step_new 9 w).mono ?_
  rintro e w1 ⟨m, g, F, rfl, hmw, hFw, hM, hk⟩
  have H1 := Lib.hid (And.intro hmw (And.intro hFw (And.intro hM hk)))
  clear hmw hFw hM hk
  go_wp2_with fail
  obtain ⟨hmw, hFw, hM, hk⟩ := H1.out
  have hFl := hM.gr.lt.1
  refine (add3 (w := w) (op := 1) (a := 1) (b := 2) (most := clampMost 9) (by decide) (Blk.new _ _ _) (fun hh => by have := hFl _ hh; omega) (hM.keep0 ((Keeps.refl _ _).alloc _)) (hk.alloc _) (fun x hx => by rcases List.mem_cons.1 hx with rfl | hx; exact hmw; exact hFw x hx)).mono ?_
  rintro e w2 ⟨rfl, F2, h3⟩
  have H2 := Lib.hid h3
  clear h3 hmw hFw hM hk hFl H1
  go_wp2_with fail
  refine (step3 H2.out).mono ?_
  rintro e w3 ⟨rfl, hk3, st, hm3⟩
  have hR : opR (graph3 1 1 2) 2 1 1 2 = (4, [some ⟨6, 1, []⟩, some ⟨6, 2, []⟩, some ⟨6, 3, []⟩]) := by decide
  rw [hR] at hm3 ⊢
  have H3 := Lib.hid (And.intro hk3 hm3)
  clear hk3 hm3 hR
  go_wp2_with fail
  refine (step_graph H3.out.2).mono ?_
  rintro e w4 ⟨rfl, rfl⟩
  go_wp2_with fail
  refine (node_get H3.out.2.gr 2).mono ?_
  rintro e w4 ⟨v', rfl, ho, hk4⟩
  have hG : gget [some ⟨6, 1, []⟩, some ⟨6, 2, []⟩, some ⟨6, 3, []⟩] 2 = some ⟨6, 3, []⟩ := by decide
  rw [hG] at ho ⊢
  have e0 : nd0 (some ⟨6, 3, []⟩) = ⟨6, 3, []⟩ := rfl
  rw [e0] at ho ⊢
  obtain ⟨va, vac, rfl, _⟩ := ownsRow_zero ho
  have H4 := Lib.hid (H3.out.1.trans0 hk4)
  clear ho hk4 hG e0
  go_wp2
  go_ret
  exact RetBool.mk rfl (H4.out.alloc _)

end Go.Proofs.Ytokbjopmfcggdaa
