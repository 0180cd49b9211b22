/- StepOps: the walk. -/
import Derived.Test.YtokbjopmfcggdaaOpsW
namespace Go.Proofs.Ytokbjopmfcggdaa
open Go.RowKit
set_option linter.unusedVariables false
set_option linter.unusedSimpArgs false
set_option linter.unnecessarySimpa false

set_option maxHeartbeats 4000000 in
set_option maxRecDepth 100000 in
theorem ops_walk (op a b : Int) (w : World) : Calls Try.prog 4 #[.int .i64 op, .int .i64 a, .int .i64 b] w (RetBool w true) := by
  go_enter Try.func4, Try.ntmps4
  go_wp2_with fail
  refine (law24_awake w).mono ?_
  rintro e w1 ⟨rfl, hk1⟩
  have K1 := Lib.hid hk1
  clear hk1
  go_wp2_with fail
  refine (step_new 20 w1).mono ?_
  rintro e w2 ⟨m, g, F, rfl, hmw, hFw, hM, hk⟩
  have H1 := Lib.hid (And.intro hmw (And.intro hFw (And.intro hM hk)))
  clear hmw hFw hM hk
  go_wp2_with fail
  obtain ⟨hmw, hFw, hM, hk⟩ := H1.out
  have hFl := hM.gr.lt.1
  refine (add3 (w := w1) (op := op) (a := a) (b := b) (most := clampMost 20) (by decide) ((Blk.new w2 _ _).alloc _) (fun hh => by have := hFl _ hh; omega) (hM.keep0 (((Keeps.refl _ _).alloc _).alloc _)) ((hk.alloc _).alloc _) (fun x hx => by rcases List.mem_cons.1 hx with rfl | hx; exact hmw; exact hFw x hx)).mono ?_
  rintro e w3 ⟨rfl, F2, h3⟩
  have H2 := Lib.hid h3
  clear h3 hmw hFw hM hk hFl H1
  go_upto_region 6 with fail
  go_cut [11] (fun s11 wx => s11 = .bool (fitsL op a b) ∧ wx = w3)
  case first =>
    have hF : Hid (fitsL op a b = (decide (-2147483647 ≤ a) && decide (a ≤ 2147483647) && decide (-2147483647 ≤ b) && decide (b ≤ 2147483647) && decide (1 ≤ op) && decide (op ≤ 5))) := Lib.hid rfl
    generalize fitsL op a b = fl at *
    by_cases q1 : -2147483647 ≤ a
    · by_cases q2 : a ≤ 2147483647
      · by_cases q3 : -2147483647 ≤ b
        · by_cases q4 : b ≤ 2147483647
          · by_cases q5 : 1 ≤ op
            · by_cases q6 : op ≤ 5
              · go_wp2
                go_meet
                exact ⟨by rw [hF.out]; first | (simp [*]; done) | (simp; intros; omega), rfl⟩
              · go_wp2
                go_meet
                exact ⟨by rw [hF.out]; first | (simp [*]; done) | (simp; intros; omega), rfl⟩
            · go_wp2
              go_meet
              exact ⟨by rw [hF.out]; first | (simp [*]; done) | (simp; intros; omega), rfl⟩
          · go_wp2
            go_meet
            exact ⟨by rw [hF.out]; first | (simp [*]; done) | (simp; intros; omega), rfl⟩
        · go_wp2
          go_meet
          exact ⟨by rw [hF.out]; first | (simp [*]; done) | (simp; intros; omega), rfl⟩
      · go_wp2
        go_meet
        exact ⟨by rw [hF.out]; first | (simp [*]; done) | (simp; intros; omega), rfl⟩
    · go_wp2
      go_meet
      exact ⟨by rw [hF.out]; first | (simp [*]; done) | (simp; intros; omega), rfl⟩
  case rest =>
    obtain ⟨rfl, rfl⟩ := hcut
    have hc := ops_plain op a b
    have HC := Lib.hid hc
    clear hc
    go_wp2_with fail
    refine (step3 H2.out).mono ?_
    rintro e w4 ⟨rfl, hk3, st, hm3⟩
    have H3 := Lib.hid (And.intro hk3 hm3)
    clear hk3 hm3
    go_wp2_with fail
    refine (step_graph H3.out.2).mono ?_
    rintro e w5 ⟨rfl, rfl⟩
    go_wp2_with fail
    refine (node_at H3.out.2.gr 2).mono ?_
    rintro e w5 ⟨v', rfl, ho, hk4⟩
    obtain ⟨va, vac, rfl, _⟩ := ownsRow_zero ho
    have H4 := Lib.hid ((K1.out.trans0 H3.out.1).trans0 hk4)
    clear ho hk4 H3 H2
    have hc := HC.out
    unfold opsCase sumCase at hc
    clear HC
    generalize nd0 (gget (opR (graph3 op a b) 2 op a b).2 (follow (opR (graph3 op a b) 2 op a b).2 2)) = nd at *
    generalize (gget (opR (graph3 op a b) 2 op a b).2 (follow (opR (graph3 op a b) 2 op a b).2 2)).isSome = is at *
    generalize (opR (graph3 op a b) 2 op a b).1 = R1 at *
    generalize hfl : fitsL op a b = fl at *
    have HF := Lib.hid hfl
    clear hfl
    obtain ⟨nk, nn, na⟩ := nd
    dsimp only at hc ⊢
    rcases hc with ⟨rfl, rfl, h10⟩ | ⟨rfl, hc⟩
    · obtain rfl : nk = 10 := h10
      go_wp2
      go_ret
      exact RetBool.mk rfl (by first | exact H4.out.alloc _ | exact H4.out)
    · have hfl := HF.out
      unfold fitsL at hfl
      simp only [Bool.and_eq_true, decide_eq_true_eq] at hfl
      obtain ⟨⟨⟨⟨⟨ba1, ba2⟩, bb1⟩, bb2⟩, bo1⟩, bo2⟩ := hfl
      obtain ⟨bm1, bm2⟩ := mul_small ⟨ba1, ba2⟩ ⟨bb1, bb2⟩
      rcases hc with ⟨rfl, hs⟩ | ⟨rfl, hs⟩ | ⟨rfl, hs⟩ | ⟨rfl, rfl, hs⟩ | ⟨rfl, rfl, hs⟩
      · rcases hs with ⟨h1, rfl, h10⟩ | ⟨⟨h1, h1'⟩, rfl, h10⟩ | ⟨⟨h1, h2⟩, rfl, hn⟩
        · obtain rfl : nk = 10 := h10
          go_wp2
          go_ret
          exact RetBool.mk rfl (by first | exact H4.out.alloc _ | exact H4.out)
        · obtain rfl : nk = 10 := h10
          go_wp2
          go_ret
          exact RetBool.mk rfl (by first | exact H4.out.alloc _ | exact H4.out)
        · injection hn with hn1 hn2 hn3
          subst hn1 hn2 hn3
          go_wp2
          go_ret
          exact RetBool.mk (by simp) (by first | exact H4.out.alloc _ | exact H4.out)
      · rcases hs with ⟨h1, rfl, h10⟩ | ⟨⟨h1, h1'⟩, rfl, h10⟩ | ⟨⟨h1, h2⟩, rfl, hn⟩
        · obtain rfl : nk = 10 := h10
          go_wp2
          go_ret
          exact RetBool.mk rfl (by first | exact H4.out.alloc _ | exact H4.out)
        · obtain rfl : nk = 10 := h10
          go_wp2
          go_ret
          exact RetBool.mk rfl (by first | exact H4.out.alloc _ | exact H4.out)
        · injection hn with hn1 hn2 hn3
          subst hn1 hn2 hn3
          go_wp2
          go_ret
          exact RetBool.mk (by simp) (by first | exact H4.out.alloc _ | exact H4.out)
      · rcases hs with ⟨h1, rfl, h10⟩ | ⟨⟨h1, h1'⟩, rfl, h10⟩ | ⟨⟨h1, h2⟩, rfl, hn⟩
        · obtain rfl : nk = 10 := h10
          go_wp2
          go_ret
          exact RetBool.mk rfl (by first | exact H4.out.alloc _ | exact H4.out)
        · obtain rfl : nk = 10 := h10
          go_wp2
          go_ret
          exact RetBool.mk rfl (by first | exact H4.out.alloc _ | exact H4.out)
        · injection hn with hn1 hn2 hn3
          subst hn1 hn2 hn3
          go_wp2
          go_ret
          exact RetBool.mk (by simp) (by first | exact H4.out.alloc _ | exact H4.out)
      · rcases hs with ⟨h1, hn⟩ | ⟨h1, hn⟩
        all_goals
          injection hn with hn1 hn2 hn3
          subst hn1 hn2 hn3
          go_wp2
          go_ret
          exact RetBool.mk (by simp) (by first | exact H4.out.alloc _ | exact H4.out)
      · rcases hs with ⟨h1, hn⟩ | ⟨h1, hn⟩
        all_goals
          injection hn with hn1 hn2 hn3
          subst hn1 hn2 hn3
          go_wp2
          go_ret
          exact RetBool.mk (by simp) (by first | exact H4.out.alloc _ | exact H4.out)

end Go.Proofs.Ytokbjopmfcggdaa
