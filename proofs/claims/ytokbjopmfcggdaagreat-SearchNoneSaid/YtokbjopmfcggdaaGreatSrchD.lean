/- A search by breadth with one task: Next; a search that nobody made; the law. -/
import Derived.Test.YtokbjopmfcggdaaGreatSrchC
namespace Go.Proofs.YtokbjopmfcggdaaGreat
open Go.RowKit
set_option linter.unusedVariables false
set_option linter.unusedSimpArgs false
set_option linter.unnecessarySimpa false

def NextFPost (w : World) (s q d a : Nat) (mv : Value) (root : Int) (x : Value) (e : Ending) (w' : World) : Prop :=
  e = .returned (.int .i64 1) ∧ SrchAt w' s q d mv root x false ∧ Blk w' q #[.slice (some ⟨a, 0, none⟩) 2 2, .int .i64 0, .int .i64 0] 88 ∧ Keeps [s, q, a] w w'

set_option maxHeartbeats 2000000 in
set_option maxRecDepth 100000 in
theorem search_next_found {w : World} {s q d a m g : Nat} {last x : Value} {root : Int} {F : List Nat} {E : Nat → Prop} {G : List (Option Nd)} {most : Nat} {p0 p1 p2 : Value} {idn st : Int} {nd : Nd} (hx : ∃ b n c, x = .slice b n c) (h : SrchAt w s q d (.pointer (some ⟨m, 0, none⟩)) root last false) (hq : QOne w q a x)
    (hm : MachAt w m g F E G most p0 p1 p2 idn st) (hn : gget G (follow G root) = some nd) (hk : nd.kind = 6) :
    Calls Tryz.prog 5 #[.pointer (some ⟨s, 0, none⟩)] w (NextFPost w s q d a (.pointer (some ⟨m, 0, none⟩)) root x) := by
  have htake := search_take1 hx h hq
  have hsq : s ≠ q := h.s.ne hq.q (by decide)
  have hsa : s ≠ a := h.s.ne hq.a (by decide)
  have hmq : m ≠ q := hm.blk.ne hq.q (by decide)
  have hma : m ≠ a := hm.blk.ne hq.a (by decide)
  have hqF := hm.gr.notIn hq.q (by decide) (by decide) (by decide)
  have haF := hm.gr.notIn hq.a (by decide) (by decide) (by decide)
  obtain ⟨gb, hgb⟩ := hm.gr.blkG
  have hqg : q ≠ g := hq.q.ne hgb (by decide)
  have hag : a ≠ g := hq.a.ne hgb (by decide)
  have hM := fun w' (k : Keeps [q, a] w w') => (show MachAt w' m g F E G most p0 p1 p2 idn st from ⟨hm.blk.keep k (by simp [hmq, hma]), hm.gr.keep k (fun y hy _ => by
    simp only [List.mem_cons, List.not_mem_nil, or_false] at hy
    rcases hy with rfl | rfl
    · exact ⟨hqF, hqg, .inr (fun cur fz hc => by have := hq.q; unfold Blk at this; rw [hc] at this; injection this with this; injection this with _ h3; revert h3; decide)⟩
    · exact ⟨haF, hag, .inr (fun cur fz hc => by have := hq.a; unfold Blk at this; rw [hc] at this; injection this with this; injection this with _ h3; revert h3; decide)⟩), hm.notF⟩)
  have c9 := h.s.cell 9
  have hlt := h.s.lt
  obtain ⟨xb, xn, xc, rfl⟩ := hx
  have H0 := Lib.hid (And.intro htake (And.intro h (And.intro hM (And.intro hn hk))))
  clear htake h hq hm hM hn hk hgb hqF haF hqg hag hmq hma
  go_enter Tryz.func5, Tryz.ntmps5
  go_wp2_with fail
  refine H0.out.1.mono ?_
  rintro e w1 ⟨rfl, hq1, hk1⟩
  have s1 := H0.out.2.1.s.keep hk1 (by simp [hsq, hsa])
  have m1 := H0.out.2.2.1 w1 hk1
  have H1 := Lib.hid (And.intro hq1 (And.intro hk1 (And.intro s1 m1)))
  clear hq1 hk1 s1 m1
  go_upto_region 8 with fail
  refine wp_world (fun wx => Blk wx q #[.slice (some ⟨a, 0, none⟩) 2 2, .int .i64 0, .int .i64 0] 88 ∧ SrchAt wx s q d (.pointer (some ⟨m, 0, none⟩)) root last false ∧ MachAt wx m g F E G most p0 p1 p2 idn st ∧ Blk wx w1.heap.size #[.slice xb xn xc] 31 ∧ Keeps [s, q, a] w wx) ⟨H1.out.1.alloc _, ⟨H1.out.2.2.1.alloc _⟩, ⟨H1.out.2.2.2.blk.alloc _, H1.out.2.2.2.gr.keep0 ((Keeps.refl _ _).alloc _), H1.out.2.2.2.notF⟩, Blk.new _ _ _, (H1.out.2.1.of_sub (by simp)).alloc _⟩ ?_
  rintro wx ⟨hq, hs, hm, hb, hkw⟩
  clear H1
  refine wp_region_X (fun w' => w'.cell? ⟨s, 0, none⟩ = some (.pointer (some ⟨m, 0, none⟩)) ∧ w'.cell? ⟨s, 1, none⟩ = some (.int .i64 root) ∧ w'.cell? ⟨w1.heap.size, 0, none⟩ = some (.slice xb xn xc)) [10, 11, 12, 13, 14, 15] (by kernel_rfl) ?_
  have hS : wx.drew.cell? ⟨s, 0, none⟩ = some (.pointer (some ⟨m, 0, none⟩)) ∧ wx.drew.cell? ⟨s, 1, none⟩ = some (.int .i64 root) ∧ wx.drew.cell? ⟨w1.heap.size, 0, none⟩ = some (.slice xb xn xc) := ⟨hs.s.cell 0, hs.s.cell 1, hb.cell 0⟩
  have hgr := step_graph (w := wx.drew) ⟨hm.blk.drew, hm.gr.keep0 (Keeps.refl _ _).drew, hm.notF⟩
  have hlook := walk_Look (w := wx.drew) (hm.gr.keep0 (Keeps.refl _ _).drew) root ⟨xb, xn, xc, rfl⟩ H0.out.2.2.2.1 H0.out.2.2.2.2
  have H2 := Lib.hid (And.intro hgr (And.intro hlook (And.intro hq.drew (And.intro hs.s.drew (And.intro hb.drew hkw.drew)))))
  clear hgr hlook hq hs hm hb hkw
  refine wpAnyX_take [0, 1, 2, 3, 5, 6, 7, 8, 9] 7 (by kernel_rfl) (fun _ _ d _ _ h => by cases d <;> exact h) (by kernel_rfl) (by simp only [List.map_cons, List.map_nil, List.getElem?_toArray, List.getElem?_cons_zero, List.getElem?_cons_succ]; rfl) hS ?_
  repeat (refine SegThen.step (v := ?_) (by rfl) (fun w' hSw => ?_) ?_; rotate_left 1; (focus ((try dsimp only at hSw); go_simp; (try with_reducible rfl))); simp only [Act.put, List.setIfInBounds_toArray, List.set_cons_zero, List.set_cons_succ])
  refine SegThen.nil ?_
  refine wpAnyX_one 4 (by kernel_rfl) (by simp only [List.getElem?_toArray, List.getElem?_cons_zero, List.getElem?_cons_succ]; rfl) ?_
  go_wp2_with (go_at_call 20; refine H2.out.1.mono ?_; rintro e w' ⟨rfl, rfl⟩)
  refine QX_intro (fun _ => hS) ?_
  refine wpAnyX_run [10, 11] _ 4 (by kernel_rfl) (by simp only [List.map_cons, List.map_nil, List.getElem?_toArray, List.getElem?_cons_zero, List.getElem?_cons_succ]; rfl) rfl ?_
  dsimp only [List.filterMap, id]
  clear hS
  go_wp2_with fail
  refine H2.out.2.1.mono ?_
  rintro e w3 ⟨rfl, hk3⟩
  have H3 := Lib.hid (And.intro (H2.out.2.2.1.keep hk3 (by simp)) (And.intro (H2.out.2.2.2.1.keep hk3 (by simp)) (And.intro (H2.out.2.2.2.2.1.keep hk3 (by simp)) (H2.out.2.2.2.2.2.trans0 hk3))))
  clear hk3 H2
  have b0 := H3.out.2.2.1.cell 0
  go_wp2
  refine QR_intro ?_
  refine wpAnyX_take0 [12, 13, 14, 15] 0 (by kernel_rfl) (fun _ _ d _ _ h => by cases d <;> exact h) (by kernel_rfl) (by simp only [List.map_cons, List.map_nil, List.getElem?_toArray, List.getElem?_cons_zero, List.getElem?_cons_succ]; rfl) ?_
  repeat (refine SegThen.step (v := ?_) (by rfl) (fun w' hSw => ?_) ?_; rotate_left 1; (focus ((try dsimp only at hSw); go_simp; (try with_reducible rfl))); simp only [Act.put, List.setIfInBounds_toArray, List.set_cons_zero, List.set_cons_succ])
  refine SegThen.nil ?_
  refine wpAnyX_done (by kernel_rfl) ?_
  go_wp2_with fail
  refine (search_found ⟨xb, xn, xc, rfl⟩ ⟨H3.out.2.1⟩).mono ?_
  rintro e w4 ⟨rfl, hs4, hk4⟩
  have H4 := Lib.hid (And.intro hs4 (And.intro (H3.out.1.keep hk4 (by simpa using hsq.symm)) (H3.out.2.2.2.trans hk4 (fun y hy => .inl (by simp at hy; simp [hy])))))
  clear hs4 hk4 H3 b0
  go_wp2
  go_ret
  exact ⟨rfl, H4.out.1, H4.out.2.1, H4.out.2.2⟩

theorem search_next_idle {w : World} {s q d : Nat} {mv v last : Value} {root f : Int} (h : SrchAt w s q d mv root last false) (hq : Blk w q #[v, .int .i64 f, .int .i64 0] 88) :
    Calls Tryz.prog 5 #[.pointer (some ⟨s, 0, none⟩)] w fun e w' => e = .returned (.int .i64 0) ∧ SrchAt w' s q d mv root last true ∧ Keeps [s] w w' := by
  have htake := search_take0 h hq
  have c9 := h.s.cell 9
  have H0 := Lib.hid (And.intro htake h)
  clear htake h hq
  go_enter Tryz.func5, Tryz.ntmps5
  go_wp2_with fail
  refine H0.out.1.mono ?_
  rintro e w1 ⟨rfl, hk1⟩
  have H1 := Lib.hid hk1
  clear hk1
  go_wp2_with fail
  refine (search_again ⟨(H0.out.2.s.keep H1.out (by simp)).alloc _⟩).mono ?_
  rintro e w2 ⟨rfl, hs2, hk2⟩
  have H2 := Lib.hid (And.intro hs2 (((H1.out.alloc _).of0).trans hk2 (fun y hy => .inl hy)))
  clear hs2 hk2
  go_wp2
  go_ret
  exact ⟨rfl, H2.out.1, H2.out.2⟩

/-! ### nil -/
theorem search_nil_next (w : World) : Calls Tryz.prog 5 #[.pointer none] w (RetInt w 0) := by
  go_enter Tryz.func5, Tryz.ntmps5
  go_wp2
  go_ret
  exact RetInt.mk rfl (Keeps.refl _ _)
theorem search_nil_done (w : World) : Calls Tryz.prog 6 #[.pointer none] w (RetBool w true) := by
  go_enter Tryz.func6, Tryz.ntmps6
  go_wp2
  go_ret
  exact RetBool.mk rfl (Keeps.refl _ _)
theorem search_nil_tasks (w : World) : Calls Tryz.prog 7 #[.pointer none] w (RetVal w (.slice none 0 0)) := by
  go_enter Tryz.func7, Tryz.ntmps7
  go_wp2
  go_ret
  exact ⟨rfl, Keeps.refl _ _⟩
theorem search_nil_stuck (w : World) : Calls Tryz.prog 8 #[.pointer none] w (RetInt w 0) := by
  go_enter Tryz.func8, Tryz.ntmps8
  go_wp2
  go_ret
  exact RetInt.mk rfl (Keeps.refl _ _)
theorem search_nil_round (w : World) : Calls Tryz.prog 9 #[.pointer none] w (RetInt w 0) := by
  go_enter Tryz.func9, Tryz.ntmps9
  go_wp2
  go_ret
  exact RetInt.mk rfl (Keeps.refl _ _)
theorem search_nil_root (w : World) : Calls Tryz.prog 10 #[.pointer none] w (RetInt w 0) := by
  go_enter Tryz.func10, Tryz.ntmps10
  go_wp2
  go_ret
  exact RetInt.mk rfl (Keeps.refl _ _)
theorem search_nil_machine (w : World) : Calls Tryz.prog 11 #[.pointer none] w (RetVal w (.pointer none)) := by
  go_enter Tryz.func11, Tryz.ntmps11
  go_wp2
  go_ret
  exact ⟨rfl, Keeps.refl _ _⟩
theorem search_machine {w : World} {s q d : Nat} {mv last : Value} {root : Int} {b : Bool} (h : SrchAt w s q d mv root last b) : Calls Tryz.prog 11 #[.pointer (some ⟨s, 0, none⟩)] w (RetVal w mv) := by
  have c0 := h.s.cell 0
  clear h
  go_enter Tryz.func11, Tryz.ntmps11
  go_wp2
  go_ret
  exact ⟨rfl, Keeps.refl _ _⟩
theorem search_nil_finger (w : World) : Calls Tryz.prog 12 #[.pointer none] w (RetVal w (.agg #[.slice none 0 0])) := by
  have b0 := Blk.new w #[.slice none 0 0] 31
  go_enter Tryz.func12, Tryz.ntmps12
  go_wp2_with fail
  refine (finger_of _).mono ?_
  rintro e w1 ⟨rfl, hk1⟩
  have b1 := b0.keep hk1 (by simp)
  have c0 := b1.cell 0
  have f0 := b1.frozen 0
  have H1 := Lib.hid (((Keeps.refl [] w).alloc (.cells #[.slice none 0 0] 31)).trans0 hk1)
  have hlt := b1.lt
  clear b0 b1 hk1
  go_wp2
  refine bodyPost_ret (v := .agg #[.slice none 0 0]) (by simp [results, Tryz.results12, go_sem, *]) rfl ?_
  exact ⟨rfl, H1.out.setCell (.inr (Nat.le_refl _)) _⟩
theorem finger_len0 (w : World) : Calls Tryz.prog 13 #[.agg #[.slice none 0 0]] w (RetInt w 0) := by
  go_enter Tryz.func13, Tryz.ntmps13
  go_wp2
  go_ret
  exact RetInt.mk rfl ((Keeps.refl _ _).alloc _)

end Go.Proofs.YtokbjopmfcggdaaGreat
