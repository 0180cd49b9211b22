/- A search by breadth with one task: Pop, take. -/
import Derived.Test.YtokbjopmfcggdaaGreatSrchA
namespace Go.Proofs.YtokbjopmfcggdaaGreat
open Go.RowKit
set_option linter.unusedVariables false
set_option linter.unusedSimpArgs false
set_option linter.unnecessarySimpa false

theorem queue_len {w : World} {q : Nat} {v : Value} {f n : Int} (h : Blk w q #[v, .int .i64 f, .int .i64 n] 88) : Calls Tryz.prog 48 #[.pointer (some ⟨q, 0, none⟩)] w fun e w' => e = .returned (.int .i64 n) ∧ w = w' := by
  obtain ⟨c0, c1, c2⟩ := cells3 h
  clear h
  go_enter Tryz.func48, Tryz.ntmps48
  go_wp2
  go_ret
  exact ⟨rfl, rfl⟩

theorem queue_pop0 {w : World} {q : Nat} {v : Value} {f : Int} (h : Blk w q #[v, .int .i64 f, .int .i64 0] 88) : Calls Tryz.prog 36 #[.pointer (some ⟨q, 0, none⟩)] w (RetVal w (.tuple #[.agg #[.slice none 0 0], .bool false])) := by
  have hl := queue_len ((h.alloc (.cells #[.slice none 0 0] 31)).alloc (.cells #[.slice none 0 0] 31))
  have HL := Lib.hid hl
  clear h hl
  go_enter Tryz.func36, Tryz.ntmps36
  go_wp2_with (go_at_call 48; refine HL.out.mono ?_; rintro e w' ⟨rfl, rfl⟩)
  refine bodyPost_ret (v := .tuple #[.agg #[.slice none 0 0], .bool false]) (by simp [results, Tryz.results36, go_sem, *]) rfl ?_
  exact ⟨rfl, by repeat (first | exact Keeps.refl _ _ | apply Keeps.alloc | refine Keeps.setCell ?_ (.inr (by simp)) _)⟩

def Pop1Post (w : World) (q a : Nat) (x : Value) (e : Ending) (w' : World) : Prop :=
  e = .returned (.tuple #[.agg #[x], .bool true]) ∧ Blk w' q #[.slice (some ⟨a, 0, none⟩) 2 2, .int .i64 0, .int .i64 0] 88 ∧ Keeps [q, a] w w'

set_option maxHeartbeats 1000000 in
theorem queue_pop1 {w : World} {q a : Nat} {x : Value} (hx : ∃ b n c, x = .slice b n c) (h : QOne w q a x) : Calls Tryz.prog 36 #[.pointer (some ⟨q, 0, none⟩)] w (Pop1Post w q a x) := by
  obtain ⟨xb, xn, xc, rfl⟩ := hx
  have hne : q ≠ a := h.q.ne h.a (by decide)
  have hql := h.q.lt
  have hal := h.a.lt
  have hl := queue_len ((h.q.alloc (.cells #[.slice none 0 0] 31)).alloc (.cells #[.slice none 0 0] 31))
  have HL := Lib.hid hl
  have HQ := Lib.hid (And.intro ((h.q.alloc (.cells #[.slice none 0 0] 31)).alloc (.cells #[.slice none 0 0] 31)) ((h.a.alloc (.cells #[.slice none 0 0] 31)).alloc (.cells #[.slice none 0 0] 31)))
  clear h hl
  have b0 : Blk ((w.alloc (.cells #[.slice none 0 0] 31)).alloc (.cells #[.slice none 0 0] 31)) w.heap.size #[.slice none 0 0] 31 := (Blk.new _ _ _).alloc _
  have b1 : Blk ((w.alloc (.cells #[.slice none 0 0] 31)).alloc (.cells #[.slice none 0 0] 31)) (w.heap.size + 1) #[.slice none 0 0] 31 := by simpa using Blk.new (w.alloc (.cells #[.slice none 0 0] 31)) #[.slice none 0 0] 31
  have kk : Keeps [q, a] w ((w.alloc (.cells #[.slice none 0 0] 31)).alloc (.cells #[.slice none 0 0] 31)) := ((Keeps.refl _ w).alloc _).alloc _
  have HB := Lib.hid (And.intro b0 (And.intro b1 kk))
  clear b0 b1 kk
  go_enter Tryz.func36, Tryz.ntmps36
  go_upto_region 4 with (go_at_call 48; refine HL.out.mono ?_; rintro e w' ⟨rfl, rfl⟩)
  refine wp_world (fun wx => wx.heap.size = w.heap.size + 2 ∧ QOne wx q a (.slice xb xn xc) ∧ Blk wx w.heap.size #[.slice none 0 0] 31 ∧ Blk wx (w.heap.size + 1) #[.slice none 0 0] 31 ∧ Keeps [q, a] w wx) ⟨by simp, ⟨HQ.out.1, HQ.out.2⟩, HB.out⟩ ?_
  clear HL HQ HB
  rintro wx ⟨hsz, hQ, hb0, hb1, hk⟩
  refine wp_region_X (fun w' => w'.cell? ⟨q, 0, none⟩ = some (.slice (some ⟨a, 0, none⟩) 2 2) ∧ w'.cell? ⟨q, 1, none⟩ = some (.int .i64 1) ∧ w'.cell? ⟨a, 1, none⟩ = some (.slice xb xn xc)) [11] (by kernel_rfl) ?_
  have hS : wx.drew.cell? ⟨q, 0, none⟩ = some (.slice (some ⟨a, 0, none⟩) 2 2) ∧ wx.drew.cell? ⟨q, 1, none⟩ = some (.int .i64 1) ∧ wx.drew.cell? ⟨a, 1, none⟩ = some (.slice xb xn xc) := ⟨hQ.q.cell 0, hQ.q.cell 1, hQ.a.cell 1⟩
  refine wpAnyX_take [0, 1, 2, 3, 4, 5, 6, 7, 8, 9] 2 (by kernel_rfl) (fun _ _ d _ _ h => by cases d <;> exact h) (by kernel_rfl) (by simp only [List.map_cons, List.map_nil, List.getElem?_toArray, List.getElem?_cons_zero, List.getElem?_cons_succ]; rfl) hS ?_
  repeat (refine SegThen.step (v := ?_) (by rfl) (fun w' hSw => ?_) ?_; rotate_left 1; (focus ((try dsimp only at hSw); go_simp; (try with_reducible rfl))); simp only [Act.put, List.setIfInBounds_toArray, List.set_cons_zero, List.set_cons_succ])
  refine SegThen.nil ?_
  refine wpAnyX_one 10 (by kernel_rfl) (by simp only [List.getElem?_toArray, List.getElem?_cons_zero, List.getElem?_cons_succ]; rfl) ?_
  go_wp2
  refine QX_intro (fun _ => ⟨cell_some_alloc hS.1, cell_some_alloc hS.2.1, cell_some_alloc hS.2.2⟩) ?_
  refine wpAnyX_tail [11] _ (by kernel_rfl) (by simp only [List.map_cons, List.map_nil, List.getElem?_toArray, List.getElem?_cons_zero, List.getElem?_cons_succ]; rfl) rfl ?_
  dsimp only [List.filterMap, id]
  have hsz' : wx.drew.heap.size = w.heap.size + 2 := hsz
  have H1 := Lib.hid (And.intro hQ.q.drew (And.intro hQ.a.drew (And.intro hb0.drew (And.intro hb1.drew hk.drew))))
  clear hQ hb0 hb1 hk hS
  go_upto_region 5 with fail
  have b2 : Blk (wx.drew.alloc (.cells #[.slice xb xn xc] 31)) (w.heap.size + 2) #[.slice xb xn xc] 31 := by
    have := Blk.new wx.drew #[.slice xb xn xc] 31
    rw [hsz'] at this
    exact this
  refine wp_world (fun wy => QOne wy q a (.slice xb xn xc) ∧ Blk wy w.heap.size #[.slice none 0 0] 31 ∧ Blk wy (w.heap.size + 1) #[.slice none 0 0] 31 ∧ Blk wy (w.heap.size + 2) #[.slice xb xn xc] 31 ∧ Keeps [q, a] w wy) ⟨⟨H1.out.1.alloc _, H1.out.2.1.alloc _⟩, H1.out.2.2.1.alloc _, H1.out.2.2.2.1.alloc _, b2, H1.out.2.2.2.2.alloc _⟩ ?_
  clear H1 hsz hsz' b2 wx
  rintro wx ⟨hQ, hb0, hb1, hb2, hk⟩
  refine wp_region_X (fun w' => w'.cell? ⟨q, 0, none⟩ = some (.slice (some ⟨a, 0, none⟩) 2 2) ∧ w'.cell? ⟨q, 1, none⟩ = some (.int .i64 1) ∧ w'.cell? ⟨w.heap.size + 1, 0, none⟩ = some (.slice none 0 0)) [10] (by kernel_rfl) ?_
  have hS : wx.drew.cell? ⟨q, 0, none⟩ = some (.slice (some ⟨a, 0, none⟩) 2 2) ∧ wx.drew.cell? ⟨q, 1, none⟩ = some (.int .i64 1) ∧ wx.drew.cell? ⟨w.heap.size + 1, 0, none⟩ = some (.slice none 0 0) := ⟨hQ.q.cell 0, hQ.q.cell 1, hb1.cell 0⟩
  refine wpAnyX_take [0, 1, 2, 3, 4, 5, 6, 7, 8, 9] 1 (by kernel_rfl) (fun _ _ d _ _ h => by cases d <;> exact h) (by kernel_rfl) (by simp only [List.map_cons, List.map_nil, List.getElem?_toArray, List.getElem?_cons_zero, List.getElem?_cons_succ]; rfl) hS ?_
  repeat (refine SegThen.step (v := ?_) (by rfl) (fun w' hSw => ?_) ?_; rotate_left 1; (focus ((try dsimp only at hSw); go_simp; (try with_reducible rfl))); simp only [Act.put, List.setIfInBounds_toArray, List.set_cons_zero, List.set_cons_succ])
  refine SegThen.nil ?_
  refine wpAnyX_tail [10] _ (by kernel_rfl) (by simp only [List.map_cons, List.map_nil, List.getElem?_toArray, List.getElem?_cons_zero, List.getElem?_cons_succ]; rfl) rfl ?_
  dsimp only [List.filterMap, id]
  have a1 := hQ.a.drew.cell 1
  have fa := hQ.a.drew.frozen 1
  have H3 := Lib.hid (And.intro hQ.q.drew (And.intro hQ.a.drew (And.intro hb0.drew (And.intro hb2.drew hk.drew))))
  clear hQ hb0 hb1 hb2 hk hS
  go_upto_region 6 with fail
  refine wp_world (fun wy => Blk wy q #[.slice (some ⟨a, 0, none⟩) 2 2, .int .i64 1, .int .i64 1] 88 ∧ Blk wy w.heap.size #[.slice none 0 0] 31 ∧ Blk wy (w.heap.size + 2) #[.slice xb xn xc] 31 ∧ Keeps [q, a] w wy) ⟨H3.out.1.setOther hne _, H3.out.2.2.1.setOther (by dsimp only; omega) _, H3.out.2.2.2.1.setOther (by dsimp only; omega) _, H3.out.2.2.2.2.setCell (.inl (by simp)) _⟩ ?_
  clear H3 a1 fa wx
  rintro wx ⟨hq, hb0, hb2, hk⟩
  have hat := queue_at2 hq (.inr ⟨rfl, rfl, rfl⟩)
  have HA := Lib.hid (And.intro hat (And.intro hq (And.intro hb0 (And.intro hb2 hk))))
  clear hat hq hb0 hb2 hk
  go_wp2_with fail
  refine HA.out.1.mono ?_
  rintro e w2 ⟨rfl, hk2⟩
  have q2 := HA.out.2.1.keep hk2 (by simp)
  have z0 := HA.out.2.2.1.keep hk2 (by simp)
  have z2 := HA.out.2.2.2.1.keep hk2 (by simp)
  have kz := HA.out.2.2.2.2.trans0 hk2
  have c1 := q2.cell 1
  have f1 := q2.frozen 1
  clear HA hk2
  have HB := Lib.hid (And.intro q2 (And.intro z0 (And.intro z2 kz)))
  clear q2 z0 z2 kz
  go_upto_region 7 with fail
  refine wp_world (fun wy => Blk wy q #[.slice (some ⟨a, 0, none⟩) 2 2, .int .i64 0, .int .i64 1] 88 ∧ Blk wy w.heap.size #[.slice none 0 0] 31 ∧ Blk wy (w.heap.size + 2) #[.slice xb xn xc] 31 ∧ Keeps [q, a] w wy) ⟨by simpa using HB.out.1.setCell 1 (.int .i64 0), HB.out.2.1.setOther (by dsimp only; omega) _, HB.out.2.2.1.setOther (by dsimp only; omega) _, HB.out.2.2.2.setCell (.inl (by simp)) _⟩ ?_
  clear HB c1 f1 w2
  rintro w2 ⟨hq, hb0, hb2, hk⟩
  have c2 := hq.cell 2
  have f2 := hq.frozen 2
  have HC := Lib.hid (And.intro hq (And.intro hb0 (And.intro hb2 hk)))
  clear hq hb0 hb2 hk
  go_upto_region 8 with fail
  refine wp_world (fun wy => Blk wy q #[.slice (some ⟨a, 0, none⟩) 2 2, .int .i64 0, .int .i64 0] 88 ∧ Blk wy w.heap.size #[.slice none 0 0] 31 ∧ Blk wy (w.heap.size + 2) #[.slice xb xn xc] 31 ∧ Keeps [q, a] w wy) ⟨by simpa using HC.out.1.setCell 2 (.int .i64 0), HC.out.2.1.setOther (by dsimp only; omega) _, HC.out.2.2.1.setOther (by dsimp only; omega) _, HC.out.2.2.2.setCell (.inl (by simp)) _⟩ ?_
  clear HC c2 f2 w2
  rintro w2 ⟨hq, hb0, hb2, hk⟩
  have c2 := hb2.cell 0
  have c0 := hb0.cell 0
  have f0 := hb0.frozen 0
  have hlt := hb0.lt
  have HD := Lib.hid (And.intro hq (And.intro hb0 hk))
  clear hq hb0 hb2 hk
  go_wp2
  refine bodyPost_ret (v := .tuple #[.agg #[.slice xb xn xc], .bool true]) (by simp [results, Tryz.results36, go_sem, *]) rfl ?_
  exact ⟨rfl, HD.out.1.setOther (by dsimp only; omega) _, HD.out.2.2.setCell (.inr (Nat.le_refl _)) _⟩

/-! ### take -/
set_option maxHeartbeats 1000000 in
theorem search_take1 {w : World} {s q d a : Nat} {mv x last : Value} {root : Int} (hx : ∃ b n c, x = .slice b n c) (h : SrchAt w s q d mv root last false) (hq : QOne w q a x) :
    Calls Tryz.prog 17 #[.pointer (some ⟨s, 0, none⟩)] w (Pop1Post w q a x) := by
  obtain ⟨xb, xn, xc, rfl⟩ := hx
  have c3 := (h.s.alloc (.cells #[.slice none 0 0] 31)).cell 3
  have c4 := (h.s.alloc (.cells #[.slice none 0 0] 31)).cell 4
  have hb := search_breadth (h.s.alloc (.cells #[.slice none 0 0] 31)) rfl
  have hp := queue_pop1 (x := .slice xb xn xc) ⟨_, _, _, rfl⟩ ⟨hq.q.alloc (.cells #[.slice none 0 0] 31), hq.a.alloc (.cells #[.slice none 0 0] 31)⟩
  have b0 := Blk.new w #[.slice none 0 0] 31
  have hql := hq.q.lt
  have hal := hq.a.lt
  have HB := Lib.hid (And.intro hb (And.intro hp b0))
  clear h hq hb hp b0
  go_enter Tryz.func17, Tryz.ntmps17
  go_upto_region 4 with (go_at_call 24; refine HB.out.1.mono ?_; rintro e w' ⟨rfl, rfl⟩)
  go_wp2_with fail
  refine HB.out.2.1.mono ?_
  rintro e w1 ⟨rfl, hq1, hk1⟩
  have z0 := HB.out.2.2.keep hk1 (by simp; omega)
  have c0 := z0.cell 0
  have f0 := z0.frozen 0
  have H1 := Lib.hid (And.intro hq1 (((Keeps.refl [q, a] w).alloc (.cells #[.slice none 0 0] 31)).trans hk1 (fun y hy => .inl hy)))
  clear hq1 hk1 z0
  go_wp2
  refine bodyPost_ret (v := .tuple #[.agg #[.slice xb xn xc], .bool true]) (by simp [results, Tryz.results17, go_sem, *]) rfl ?_
  exact ⟨rfl, H1.out.1.setOther (by dsimp only; omega) _, H1.out.2.setCell (.inr (Nat.le_refl _)) _⟩

theorem search_take0 {w : World} {s q d : Nat} {mv v last : Value} {root f : Int} (h : SrchAt w s q d mv root last false) (hq : Blk w q #[v, .int .i64 f, .int .i64 0] 88) :
    Calls Tryz.prog 17 #[.pointer (some ⟨s, 0, none⟩)] w (RetVal w (.tuple #[.agg #[.slice none 0 0], .bool false])) := by
  have c3 := (h.s.alloc (.cells #[.slice none 0 0] 31)).cell 3
  have c4 := (h.s.alloc (.cells #[.slice none 0 0] 31)).cell 4
  have hb := search_breadth (h.s.alloc (.cells #[.slice none 0 0] 31)) rfl
  have hp := queue_pop0 (hq.alloc (.cells #[.slice none 0 0] 31))
  have b0 := Blk.new w #[.slice none 0 0] 31
  have HB := Lib.hid (And.intro hb (And.intro hp b0))
  clear h hq hb hp b0
  go_enter Tryz.func17, Tryz.ntmps17
  go_upto_region 4 with (go_at_call 24; refine HB.out.1.mono ?_; rintro e w' ⟨rfl, rfl⟩)
  go_wp2_with fail
  refine HB.out.2.1.mono ?_
  rintro e w1 ⟨rfl, hk1⟩
  have z0 := HB.out.2.2.keep hk1 (by simp)
  have c0 := z0.cell 0
  have f0 := z0.frozen 0
  have H1 := Lib.hid (((Keeps.refl [] w).alloc (.cells #[.slice none 0 0] 31)).trans0 hk1)
  clear hk1 z0
  go_wp2
  refine bodyPost_ret (v := .tuple #[.agg #[.slice none 0 0], .bool false]) (by simp [results, Tryz.results17, go_sem, *]) rfl ?_
  exact ⟨rfl, H1.out.setCell (.inr (Nat.le_refl _)) _⟩

/-! ### found, again, Done -/
set_option maxHeartbeats 1000000 in
theorem search_found {w : World} {s q d : Nat} {mv last x : Value} {root : Int} (hx : ∃ b n c, x = .slice b n c) (h : SrchAt w s q d mv root last false) :
    Calls Tryz.prog 21 #[.pointer (some ⟨s, 0, none⟩), .agg #[x]] w fun e w' => e = .returned (.int .i64 1) ∧ SrchAt w' s q d mv root x false ∧ Keeps [s] w w' := by
  obtain ⟨xb, xn, xc, rfl⟩ := hx
  have bs := (h.s.alloc (.cells #[.slice xb xn xc] 31)).drew
  have bx := (Blk.new w #[.slice xb xn xc] 31).drew
  have c2 := h.s.cell 2
  have hlt := h.s.lt
  have HB := Lib.hid (And.intro bs bx)
  clear bs bx h
  go_enter Tryz.func21, Tryz.ntmps21
  go_wp2
  go_region
  all_goals
    go_upto_region 3 with fail
    refine wp_world (fun wy => SrchAt wy s q d mv root last false ∧ Blk wy w.heap.size #[.slice xb xn xc] 31 ∧ Keeps [s] w wy) ⟨⟨HB.out.1⟩, HB.out.2, ((Keeps.refl _ w).alloc _).drew⟩ ?_
    rintro wy ⟨hs, hb, hk⟩
    have s5 := hs.s.cell 5
    have f5 := hs.s.frozen 5
    have b0 := hb.cell 0
    have H1 := Lib.hid (And.intro hs hk)
    clear hs hb hk HB c2
    go_wp2
    go_ret
    exact ⟨rfl, ⟨by simpa using H1.out.1.s.setCell 5 (.slice xb xn xc)⟩, H1.out.2.setCell (.inl (by simp)) _⟩
theorem search_again {w : World} {s q d : Nat} {mv last : Value} {root : Int} (h : SrchAt w s q d mv root last false) :
    Calls Tryz.prog 18 #[.pointer (some ⟨s, 0, none⟩)] w fun e w' => e = .returned (.int .i64 0) ∧ SrchAt w' s q d mv root last true ∧ Keeps [s] w w' := by
  have c2 := h.s.cell 2
  have c10 := h.s.cell 10
  have f10 := h.s.frozen 10
  have HB := Lib.hid h
  clear h
  go_enter Tryz.func18, Tryz.ntmps18
  go_wp2
  go_ret
  exact ⟨rfl, ⟨by simpa using HB.out.s.setCell 10 (.bool true)⟩, (Keeps.refl _ _).setCell (.inl (by simp)) _⟩
theorem search_done {w : World} {s q d : Nat} {mv last : Value} {root : Int} {b : Bool} (h : SrchAt w s q d mv root last b) :
    Calls Tryz.prog 6 #[.pointer (some ⟨s, 0, none⟩)] w fun e w' => e = .returned (.bool b) ∧ w = w' := by
  have c10 := h.s.cell 10
  clear h
  go_enter Tryz.func6, Tryz.ntmps6
  go_wp2
  go_ret
  exact ⟨rfl, rfl⟩

end Go.Proofs.YtokbjopmfcggdaaGreat
