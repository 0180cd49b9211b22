/- SearchNone: its awake, and the walk. -/
import Derived.Test.YtokbjopmfcggdaaGreatSrchD
namespace Go.Proofs.YtokbjopmfcggdaaGreat
open Go.RowKit
set_option linter.unusedVariables false
set_option linter.unusedSimpArgs false
set_option linter.unnecessarySimpa false

def core1 : Core := .mk 5 1 []
theorem core1_at {w : World} : CoreAt (fun _ => False) w core1 (.agg #[.int .i64 5, .int .i64 1, .slice none 0 0]) := by
  unfold core1 CoreAt
  exact ⟨_, [], rfl, RowAt.nil _ _ _, by unfold CoresAt; rfl⟩
theorem core1_size : csize core1 = 1 := by simp [core1, csize, csizes]
theorem core1_make : makeF 9 [] core1 [] 0 = ((0, 0, 0), [some ⟨6, 1, []⟩]) := by
  have hb : boundC core1 0 = true := by simp [boundC, core1, slotsC, slotsA, seenC, seenA, partsK, partsC, Core.kind, Core.args]
  have hn : need core1 = 1 := by simp [core1, need, needs]
  have h1 : room [] 9 (1 : Nat) = true := by simp [room, cnt]
  unfold makeF
  rw [show ((([] : List Int).length : Nat) : Int) = 0 from rfl, hb, if_pos rfl, hn, h1, if_pos rfl]
  simp [core1, mkC, mkA, putR, cnt, freeAt, gput, putAt, kindK, envM]
theorem graph1_follow : gget [some (⟨6, 1, []⟩ : Nd)] (follow [some (⟨6, 1, []⟩ : Nd)] 0) = some ⟨6, 1, []⟩ := by decide

set_option maxHeartbeats 2000000 in
set_option maxRecDepth 100000 in
theorem law29_awake (w : World) : Calls Tryz.prog 4 #[] w (RetBool w true) := by
  go_enter Tryz.func4, Tryz.ntmps4
  go_wp2_with fail
  refine (step_new 9 w).mono ?_
  rintro e w1 ⟨m, g, F, rfl, hmw, hFw, hM, hk⟩
  have hc9 : clampMost 9 = 9 := by decide
  rw [hc9] at hM
  have H1 := Lib.hid (And.intro hmw (And.intro hFw (And.intro hM hk)))
  clear hmw hFw hM hk hc9
  go_wp2_with fail
  refine (step_add (c := core1) (l := []) (T := fun _ => False) (by rw [core1_size]; omega) (by decide) core1_at (fun x hx => hx.elim) (RowAt.nil _ _ _) (fun b hb => hb.elim) H1.out.2.2.1 (fun x hx => Nat.lt_of_lt_of_le hx H1.out.2.2.2.size) (by decide) (by rw [core1_size]; omega)).mono ?_
  rintro e w2 ⟨F2, rfl, hm2, hk2, hF2⟩
  rw [core1_make] at hm2 ⊢
  have kw2 : Keeps [] w w2 := H1.out.2.2.2.trans hk2 (fun x hx => .inr (by simp only [List.mem_cons] at hx; rcases hx with rfl | hx; exact H1.out.1; exact H1.out.2.1 x hx))
  have H2 := Lib.hid (And.intro hm2 kw2)
  clear hm2 hk2 hF2 kw2
  go_wp2_with fail
  refine (search_new _ _).mono ?_
  rintro e w3 ⟨s, q, d, a, rfl, hs3, hq3, hs, hq, hd, ha, hk3⟩
  have hm3 : MachAt w3 m g F2 (fun x => x < w.heap.size) [some ⟨6, 1, []⟩] 9 (.slice none 0 0) (.slice none 0 0) (.slice none 0 0) 0 0 := ⟨H2.out.1.blk.keep hk3 (by simp), H2.out.1.gr.keep0 hk3, H2.out.1.notF⟩
  have hw2 := H2.out.2.size
  have H3 := Lib.hid (And.intro hs3 (And.intro hq3 (And.intro hm3 (And.intro (H2.out.2.trans0 hk3) (And.intro (Nat.le_trans hw2 hs) (And.intro (Nat.le_trans hw2 hq) (Nat.le_trans hw2 ha)))))))
  clear hs3 hq3 hs hq hd ha hk3 hm3 hw2
  go_wp2_with fail
  refine (search_next_found ⟨_, _, _, rfl⟩ H3.out.1 H3.out.2.1 H3.out.2.2.1 graph1_follow rfl).mono ?_
  rintro e w4 ⟨rfl, hs4, hq4, hk4⟩
  have H4 := Lib.hid (And.intro hs4 (And.intro hq4 (H3.out.2.2.2.1.trans hk4 (fun x hx => .inr (by
    simp only [List.mem_cons, List.not_mem_nil, or_false] at hx
    rcases hx with rfl | rfl | rfl
    · exact H3.out.2.2.2.2.1
    · exact H3.out.2.2.2.2.2.1
    · exact H3.out.2.2.2.2.2.2)))))
  clear hs4 hq4 hk4
  go_wp2_with fail
  refine (search_next_idle H4.out.1 H4.out.2.1).mono ?_
  rintro e w5 ⟨rfl, hs5, hk5⟩
  have H5 := Lib.hid (And.intro hs5 (H4.out.2.2.trans hk5 (fun x hx => .inr (by simp at hx; rw [hx]; exact H3.out.2.2.2.2.1))))
  clear hs5 hk5
  go_wp2_with (go_at_call 6; refine (search_done H5.out.1).mono ?_; rintro e w' ⟨rfl, rfl⟩)
  go_ret
  exact RetBool.mk rfl H5.out.2

set_option maxHeartbeats 2000000 in
set_option maxRecDepth 100000 in
theorem law29_none (n : Int) (w : World) : Calls Tryz.prog 3 #[.int .i64 n] w (RetBool w true) := by
  go_enter Tryz.func3, Tryz.ntmps3
  go_wp2_with (first | (go_at_call 4; refine (law29_awake _).mono ?_; rintro e w1 ⟨rfl, hk1⟩; have H1 := Lib.hid hk1; clear hk1) | (go_at_call 5; refine (search_nil_next _).mono ?_; rintro e w2 ⟨rfl, hk2⟩; have H2 := Lib.hid (H1.out.trans0 hk2); clear hk2) | (go_at_call 6; refine (search_nil_done _).mono ?_; rintro e w3 ⟨rfl, hk3⟩; have H3 := Lib.hid (H2.out.trans0 hk3); clear hk3) | (go_at_call 7; refine (search_nil_tasks _).mono ?_; rintro e w4 ⟨rfl, hk4⟩; have H4 := Lib.hid (H3.out.trans0 hk4); clear hk4) | (go_at_call 8; refine (search_nil_stuck _).mono ?_; rintro e w5 ⟨rfl, hk5⟩; have H5 := Lib.hid (H4.out.trans0 hk5); clear hk5) | (go_at_call 9; refine (search_nil_round _).mono ?_; rintro e w6 ⟨rfl, hk6⟩; have H6 := Lib.hid (H5.out.trans0 hk6); clear hk6) | (go_at_call 10; refine (search_nil_root _).mono ?_; rintro e w7 ⟨rfl, hk7⟩; have H7 := Lib.hid (H6.out.trans0 hk7); clear hk7) | (go_at_call 11; refine (search_nil_machine _).mono ?_; rintro e w8 ⟨rfl, hk8⟩; have H8 := Lib.hid (H7.out.trans0 hk8); clear hk8) | (go_at_call 12; refine (search_nil_finger _).mono ?_; rintro e w9 ⟨rfl, hk9⟩; have H9 := Lib.hid (H8.out.trans0 hk9); clear hk9) | (go_at_call 13; refine (finger_len0 _).mono ?_; rintro e w10 ⟨rfl, hk10⟩; have H10 := Lib.hid (H9.out.trans0 hk10); clear hk10) | (go_at_call 14; refine (search_new _ _).mono ?_; rintro e w11 ⟨s, q, d, a, rfl, hs11, hq11, hs, hq, hd, ha, hk11⟩; have H11 := Lib.hid (And.intro hs11 (H10.out.trans0 hk11)); clear hs11 hq11 hs hq hd ha hk11) | (go_at_call 11; refine (search_machine H11.out.1).mono ?_; rintro e w12 ⟨rfl, hk12⟩; have H12 := Lib.hid (H11.out.2.trans0 hk12); clear hk12))
  go_ret
  exact RetBool.mk rfl H12.out

end Go.Proofs.YtokbjopmfcggdaaGreat
