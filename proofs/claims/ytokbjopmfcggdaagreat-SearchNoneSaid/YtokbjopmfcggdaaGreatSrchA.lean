/- A search by breadth with one task: queue, stack, finger, New. -/
import Derived.Test.YtokbjopmfcggdaaGreatStep
import Derived.Carry
import Derived.Handy
import Derived.Laws.MakeOwn
namespace Go.Proofs.YtokbjopmfcggdaaGreat
open Go.RowKit
set_option linter.unusedVariables false
set_option linter.unusedSimpArgs false
set_option linter.unnecessarySimpa false

theorem search_breadth {w : World} {s : Nat} {cs : Array Value} {t : TypeId} (h : Blk w s cs t) (h2 : cs[2]? = some (.int .i64 0)) : Calls Tryz.prog 24 #[.pointer (some ⟨s, 0, none⟩)] w fun e w' => e = .returned (.bool true) ∧ w = w' := by
  have c2 := (h.cell 2).trans h2
  clear h
  go_enter Tryz.func24, Tryz.ntmps24
  go_wp2
  go_ret
  exact ⟨rfl, rfl⟩

theorem queue_of (w : World) : Calls Tryz.prog 29 #[.slice none 0 0] w fun e w' => e = .returned (.pointer (some ⟨w.heap.size, 0, none⟩)) ∧ w' = w.alloc (.cells #[.slice none 0 0, .int .i64 0, .int .i64 0] 88) := by
  go_enter Tryz.func29, Tryz.ntmps29
  go_wp2
  go_loopg [10] 0 (fun q s10 wr => q = 0 ∧ s10 = .int .i64 0 ∧ wr = w.alloc (.cells #[.slice none 0 0, .int .i64 0, .int .i64 0] 88))
  case atStart => exact ⟨rfl, rfl, rfl⟩
  case round =>
    obtain ⟨rfl, rfl, rfl⟩ := hrel
    go_wp2
    go_ret
    exact ⟨rfl, rfl⟩
theorem stack_of (w : World) : Calls Tryz.prog 30 #[.slice none 0 0] w fun e w' => e = .returned (.pointer (some ⟨w.heap.size, 0, none⟩)) ∧ w' = w.alloc (.cells #[.pointer none, .int .i64 0] 92) := by
  go_enter Tryz.func30, Tryz.ntmps30
  go_wp2
  go_loopg [10] 0 (fun q s10 wr => q = 0 ∧ s10 = .int .i64 0 ∧ wr = w.alloc (.cells #[.pointer none, .int .i64 0] 92))
  case atStart => exact ⟨rfl, rfl, rfl⟩
  case round =>
    obtain ⟨rfl, rfl, rfl⟩ := hrel
    go_wp2
    go_ret
    exact ⟨rfl, rfl⟩
def RetVal (w : World) (v : Value) (e : Ending) (w' : World) : Prop := e = .returned v ∧ Keeps [] w w'
theorem finger_of (w : World) : Calls Tryz.prog 28 #[.slice none 0 0] w (RetVal w (.agg #[.slice none 0 0])) := by
  have b2 : Blk ((w.alloc (.cells #[.slice none 0 0] 31)).alloc (.cells #[.slice none 0 0] 31)) w.heap.size #[.slice none 0 0] 31 := (Blk.new _ _ _).alloc _
  have b3 : Blk ((w.alloc (.cells #[.slice none 0 0] 31)).alloc (.cells #[.slice none 0 0] 31)) (w.heap.size + 1) #[.slice none 0 0] 31 := by simpa using Blk.new (w.alloc (.cells #[.slice none 0 0] 31)) #[.slice none 0 0] 31
  go_enter Tryz.func28, Tryz.ntmps28
  go_wp2
  go_loopg [8] 0 (fun q s8 wr => q = 0 ∧ s8 = .int .i64 0 ∧ wr = (w.alloc (.cells #[.slice none 0 0] 31)).alloc (.cells #[.slice none 0 0] 31))
  case atStart => exact ⟨rfl, rfl, rfl⟩
  case round =>
    obtain ⟨rfl, rfl, rfl⟩ := hrel
    go_wp2
    go_returns
    exact ⟨rfl, by repeat (first | exact Keeps.refl _ _ | apply Keeps.alloc | refine Keeps.setCell ?_ (.inr (by simp)) _)⟩

theorem queue_at2 {w : World} {q a : Nat} {f k i r : Int} (h : Blk w q #[.slice (some ⟨a, 0, none⟩) 2 2, .int .i64 f, .int .i64 k] 88) (hr : (f = 0 ∧ i = 1 ∧ r = 1) ∨ (f = 1 ∧ i = 1 ∧ r = 0)) :
    Calls Tryz.prog 49 #[.pointer (some ⟨q, 0, none⟩), .int .i64 i] w (RetInt w r) := by
  obtain ⟨c0, c1, c2⟩ := cells3 h
  clear h
  rcases hr with ⟨rfl, rfl, rfl⟩ | ⟨rfl, rfl, rfl⟩
  all_goals
    go_enter Tryz.func49, Tryz.ntmps49
    go_wp2
    go_region
    all_goals
      go_wp2
      go_ret
      exact RetInt.mk (by decide) (Keeps.refl _ _).drew

theorem Tryz.infoFinger : (Tryz.prog.info? 31).map (fun i => (i.zero, i.size, i.bytes)) = some (some (.agg #[.slice none 0 0]), 1, 24) := by kernel_rfl
set_option maxRecDepth 100000 in
theorem queue_grow0 {w : World} {q : Nat} (h : Blk w q #[.slice none 0 0, .int .i64 0, .int .i64 0] 88) :
    Calls Tryz.prog 77 #[.pointer (some ⟨q, 0, none⟩)] w fun e w' => e = .returned (.tuple #[]) ∧ Blk w' q #[.slice (some ⟨w.heap.size, 0, none⟩) 2 2, .int .i64 0, .int .i64 0] 88 ∧ Blk w' w.heap.size #[.slice none 0 0, .slice none 0 0] 31 ∧ Keeps [q] w w' := by
  obtain ⟨c0, c1, c2⟩ := cells3 h
  have f0 := h.frozen 0
  have f1 := h.frozen 1
  have hlt := h.lt
  have HB := Lib.hid h
  clear h
  have hmk : ∀ w' : World, (Instr.makeSlice 25 (.int .i64 2) (.int .i64 2)).run Tryz.prog w' = .ok (.slice (some ⟨w'.heap.size, 0, none⟩) 2 2) (w'.alloc (.cells #[.slice none 0 0, .slice none 0 0] 31)) := fun w' => by
    obtain ⟨i, h1, h2⟩ := Option.map_eq_some_iff.1 Tryz.infoFinger
    simp only [Prod.mk.injEq] at h2
    have := run_makeSlice (P := Tryz.prog) w' 25 31 i _ Tryz.underlying25 h1 h2.1 .i64 .i64 2 2 (by decide) (by decide) (by rw [h2.2.1]; decide) (by rw [h2.2.2]; decide) (by decide)
    rw [h2.2.1] at this
    have hm : madeCells (Value.agg #[Value.slice none 0 0]).cells (Int.toNat 2 * 1) = #[.slice none 0 0, .slice none 0 0] := by
      apply Array.toList_inj.1
      simp [madeCells, Value.cells, List.range_succ]
    rw [hm] at this
    exact this
  go_enter Tryz.func77, Tryz.ntmps77
  go_wp2
  go_region
  all_goals
    go_wp2
    go_loopg [25] 0 (fun q' s25 wr => q' = 0 ∧ s25 = .int .i64 0 ∧ wr = w.drew.alloc (.cells #[.slice none 0 0, .slice none 0 0] 31))
    case atStart => exact ⟨rfl, rfl, rfl⟩
    case round =>
      obtain ⟨rfl, rfl, rfl⟩ := hrel
      go_wp2
      go_returns
      have hb : Blk ((w.setCell ⟨q, 0, none⟩ (.slice (some ⟨w.heap.size, 0, none⟩) 2 2)).setCell ⟨q, 1, none⟩ (.int .i64 0)) q #[.slice (some ⟨w.heap.size, 0, none⟩) 2 2, .int .i64 0, .int .i64 0] 88 := by simpa using (HB.out.setCell 0 (.slice (some ⟨w.heap.size, 0, none⟩) 2 2)).setCell 1 (.int .i64 0)
      have hn : Blk (((w.setCell ⟨q, 0, none⟩ (.slice (some ⟨w.heap.size, 0, none⟩) 2 2)).setCell ⟨q, 1, none⟩ (.int .i64 0)).alloc (.cells #[.slice none 0 0, .slice none 0 0] 31)) w.heap.size #[.slice none 0 0, .slice none 0 0] 31 := by simpa using Blk.new ((w.setCell ⟨q, 0, none⟩ (.slice (some ⟨w.heap.size, 0, none⟩) 2 2)).setCell ⟨q, 1, none⟩ (.int .i64 0)) #[.slice none 0 0, .slice none 0 0] 31
      exact ⟨rfl, (hb.alloc _).drew, hn.drew, ((((Keeps.refl _ w).setCell (.inl (by simp)) _).setCell (.inl (by simp)) _).alloc _).drew⟩

/-- The queue with one finger, in the second of its two places. -/
structure QOne (w : World) (q a : Nat) (x : Value) : Prop where
  q : Blk w q #[.slice (some ⟨a, 0, none⟩) 2 2, .int .i64 1, .int .i64 1] 88
  a : Blk w a #[.slice none 0 0, x] 31
set_option maxHeartbeats 1000000 in
theorem queue_back0 {w : World} {q : Nat} {x : Value} (hx : ∃ b n c, x = .slice b n c) (h : Blk w q #[.slice none 0 0, .int .i64 0, .int .i64 0] 88) :
    Calls Tryz.prog 54 #[.pointer (some ⟨q, 0, none⟩), .agg #[x]] w fun e w' => e = .returned (.tuple #[]) ∧ ∃ a, w.heap.size ≤ a ∧ QOne w' q a x ∧ Keeps [q] w w' := by
  obtain ⟨xb, xn, xc, rfl⟩ := hx
  have hlt := h.lt
  have hg := queue_grow0 (h.alloc (.cells #[.slice xb xn xc] 31))
  have bB := Blk.new w #[.slice xb xn xc] 31
  have HG := Lib.hid (And.intro hg bB)
  clear hg bB h
  go_enter Tryz.func54, Tryz.ntmps54
  go_wp2_with fail
  refine HG.out.1.mono ?_
  rintro e w1 ⟨rfl, hq, ha, hk⟩
  have b1 := HG.out.2.keep hk (by simp; omega)
  have hk1 : Keeps [q] w w1 := ((Keeps.refl [] w).alloc _).of0.trans hk (fun y hy => .inl hy)
  obtain ⟨A, hA⟩ : ∃ A, A = (w.alloc (.cells #[.slice xb xn xc] 31)).heap.size := ⟨_, rfl⟩
  rw [← hA] at hq ha
  have hAq : A ≠ q := by rw [hA]; simp; omega
  have hAB : A ≠ w.heap.size := by rw [hA]; simp
  have hAw : w.heap.size ≤ A := by rw [hA]; simp
  clear hA hk HG
  obtain ⟨c0, c1, c2⟩ := cells3 hq
  have H1 := Lib.hid (And.intro hq (And.intro ha (And.intro b1 hk1)))
  clear hq ha b1 hk1
  go_upto_region 4 with (go_at_call 49; refine (queue_at2 H1.out.1 (.inl ⟨rfl, rfl, rfl⟩)).mono ?_; rintro e w2 ⟨rfl, hk2⟩; have hq2 := H1.out.1.keep hk2 (by simp); have d1 := hq2.cell 1; have f1 := hq2.frozen 1; have H2 := Lib.hid (And.intro hq2 (And.intro (H1.out.2.1.keep hk2 (by simp)) (And.intro (H1.out.2.2.1.keep hk2 (by simp)) (H1.out.2.2.2.trans0 hk2)))); clear hq2 hk2)
  refine wp_world (fun wx => Blk wx q #[.slice (some ⟨A, 0, none⟩) 2 2, .int .i64 1, .int .i64 0] 88 ∧ Blk wx A #[.slice none 0 0, .slice none 0 0] 31 ∧ Blk wx w.heap.size #[.slice xb xn xc] 31 ∧ Keeps [q] w wx) ⟨by simpa using H2.out.1.setCell 1 (.int .i64 1), H2.out.2.1.setOther hAq _, H2.out.2.2.1.setOther (by dsimp only; omega) _, H2.out.2.2.2.setCell (.inl (by simp)) _⟩ ?_
  clear H1 H2 c0 c1 c2 d1 f1
  rintro wx ⟨hq, ha, hb, hk⟩
  refine wp_region_X (fun w' => w'.cell? ⟨q, 0, none⟩ = some (.slice (some ⟨A, 0, none⟩) 2 2) ∧ w'.cell? ⟨q, 1, none⟩ = some (.int .i64 1) ∧ w'.cell? ⟨w.heap.size, 0, none⟩ = some (.slice xb xn xc)) [10] (by kernel_rfl) ?_
  have hS : wx.drew.cell? ⟨q, 0, none⟩ = some (.slice (some ⟨A, 0, none⟩) 2 2) ∧ wx.drew.cell? ⟨q, 1, none⟩ = some (.int .i64 1) ∧ wx.drew.cell? ⟨w.heap.size, 0, none⟩ = some (.slice xb xn xc) := ⟨hq.cell 0, hq.cell 1, hb.cell 0⟩
  refine wpAnyX_take [0, 1, 2, 3, 4, 5, 6, 7, 8, 9] 1 (by kernel_rfl) (fun _ _ d _ _ h => by cases d <;> exact h) (by kernel_rfl) (by simp only [List.map_cons, List.map_nil, List.getElem?_toArray, List.getElem?_cons_zero, List.getElem?_cons_succ]; rfl) hS ?_
  repeat (refine SegThen.step (v := ?_) (by rfl) (fun w' hSw => ?_) ?_; rotate_left 1; (focus ((try dsimp only at hSw); go_simp; (try with_reducible rfl))); simp only [Act.put, List.setIfInBounds_toArray, List.set_cons_zero, List.set_cons_succ])
  refine SegThen.nil ?_
  refine wpAnyX_tail [10] _ (by kernel_rfl) (by simp only [List.map_cons, List.map_nil, List.getElem?_toArray, List.getElem?_cons_zero, List.getElem?_cons_succ]; rfl) rfl ?_
  dsimp only [List.filterMap, id]
  have a1 := ha.drew.cell 1
  have fa := ha.drew.frozen 1
  have H3 := Lib.hid (And.intro hq.drew (And.intro ha.drew hk.drew))
  clear hq ha hb hk hS
  go_upto_region 5 with fail
  refine wp_world (fun wy => Blk wy q #[.slice (some ⟨A, 0, none⟩) 2 2, .int .i64 1, .int .i64 0] 88 ∧ Blk wy A #[.slice none 0 0, .slice xb xn xc] 31 ∧ Keeps [q] w wy) ⟨H3.out.1.setOther (Ne.symm hAq) _, (show Blk (wx.drew.setCell ⟨A, 1, none⟩ (.slice xb xn xc)) A #[.slice none 0 0, .slice xb xn xc] 31 by simpa using H3.out.2.1.setCell 1 (.slice xb xn xc)), H3.out.2.2.setCell (.inr hAw) _⟩ ?_
  clear H3 a1 fa
  rintro wy ⟨hq, ha, hk⟩
  have q2 := hq.cell 2
  have fq := hq.frozen 2
  have H4 := Lib.hid (And.intro hq (And.intro ha hk))
  clear hq ha hk
  go_wp2
  go_returns
  obtain ⟨hq, ha, hk⟩ := H4.out
  exact ⟨rfl, A, hAw, ⟨by simpa using hq.setCell 2 (.int .i64 1), ha.setOther (p := ⟨q, 2, none⟩) hAq _⟩, hk.setCell (.inl (by simp)) _⟩

/-! ### New -/
structure SrchAt (w : World) (s q d : Nat) (mv : Value) (root : Int) (last : Value) (done : Bool) : Prop where
  s : Blk w s #[mv, .int .i64 root, .int .i64 0, .pointer (some ⟨q, 0, none⟩), .pointer (some ⟨d, 0, none⟩), last, .int .i64 0, .int .i64 0, .bool false, .bool false, .bool done] 50

set_option maxHeartbeats 1000000 in
theorem search_next0 {w : World} {s q d : Nat} {mv x last : Value} {root : Int} (hx : ∃ b n c, x = .slice b n c) (h : SrchAt w s q d mv root last false) (hq : Blk w q #[.slice none 0 0, .int .i64 0, .int .i64 0] 88) :
    Calls Tryz.prog 31 #[.pointer (some ⟨s, 0, none⟩), .agg #[x]] w fun e w' => e = .returned (.tuple #[]) ∧ ∃ a, w.heap.size ≤ a ∧ QOne w' q a x ∧ Keeps [q] w w' := by
  obtain ⟨xb, xn, xc, rfl⟩ := hx
  have bB := Blk.new w #[.slice xb xn xc] 31
  have c3 := (h.s.alloc (.cells #[.slice xb xn xc] 31)).cell 3
  have hb := search_breadth (h.s.alloc (.cells #[.slice xb xn xc] 31)) rfl
  have hlt := h.s.lt
  have hback := queue_back0 (x := .slice xb xn xc) ⟨_, _, _, rfl⟩ (hq.alloc (.cells #[.slice xb xn xc] 31)).drew
  have HB := Lib.hid (And.intro hb hback)
  clear h hq hb hback
  go_enter Tryz.func31, Tryz.ntmps31
  go_upto_region 2 with (go_at_call 24; refine HB.out.1.mono ?_; rintro e w' ⟨rfl, rfl⟩)
  refine wp_region_X (fun w' => w'.cell? ⟨s, 3, none⟩ = some (.pointer (some ⟨q, 0, none⟩)) ∧ w'.cell? ⟨w.heap.size, 0, none⟩ = some (.slice xb xn xc)) [5] (by kernel_rfl) ?_
  have hS : (w.alloc (.cells #[.slice xb xn xc] 31)).drew.cell? ⟨s, 3, none⟩ = some (.pointer (some ⟨q, 0, none⟩)) ∧ (w.alloc (.cells #[.slice xb xn xc] 31)).drew.cell? ⟨w.heap.size, 0, none⟩ = some (.slice xb xn xc) := ⟨c3, bB.cell 0⟩
  refine wpAnyX_take [0, 1, 2, 3, 4] 1 (by kernel_rfl) (fun _ _ d _ _ h => by cases d <;> exact h) (by kernel_rfl) (by simp only [List.map_cons, List.map_nil, List.getElem?_toArray, List.getElem?_cons_zero, List.getElem?_cons_succ]; rfl) hS ?_
  repeat (refine SegThen.step (v := ?_) (by rfl) (fun w' hSw => ?_) ?_; rotate_left 1; (focus ((try dsimp only at hSw); go_simp; (try with_reducible rfl))); simp only [Act.put, List.setIfInBounds_toArray, List.set_cons_zero, List.set_cons_succ])
  refine SegThen.nil ?_
  refine wpAnyX_tail [5] _ (by kernel_rfl) (by simp only [List.map_cons, List.map_nil, List.getElem?_toArray, List.getElem?_cons_zero, List.getElem?_cons_succ]; rfl) rfl ?_
  dsimp only [List.filterMap, id]
  clear hS bB
  go_wp2_with fail
  refine HB.out.2.mono ?_
  rintro e w1 ⟨rfl, a, ha, hQ, hk⟩
  have HH := Lib.hid (And.intro ha (And.intro hQ hk))
  clear ha hQ hk
  go_wp2
  go_returns
  obtain ⟨ha, hQ, hk⟩ := HH.out
  refine ⟨rfl, a, ?_, hQ, (((Keeps.refl [q] w).alloc _).drew).trans hk (fun y hy => .inl hy)⟩
  have : w.heap.size ≤ ((w.alloc (.cells #[.slice xb xn xc] 31)).drew).heap.size := ((Keeps.refl [] w).alloc (.cells #[.slice xb xn xc] 31)).drew.size
  omega

def SNewPost (w : World) (mv : Value) (root : Int) (e : Ending) (w' : World) : Prop :=
  ∃ s q d a, e = .returned (.pointer (some ⟨s, 0, none⟩)) ∧ SrchAt w' s q d mv root (.slice none 0 0) false ∧ QOne w' q a (.slice none 0 0) ∧ w.heap.size ≤ s ∧ w.heap.size ≤ q ∧ w.heap.size ≤ d ∧ w.heap.size ≤ a ∧ Keeps [] w w'

set_option maxHeartbeats 1000000 in
theorem search_new {w : World} (p : Option Addr) (root : Int) : Calls Tryz.prog 14 #[.pointer p, .int .i64 root, .int .i64 0] w (SNewPost w (.pointer p) root) := by
  go_enter Tryz.func14, Tryz.ntmps14
  go_wp2_with fail
  refine (queue_of _).mono ?_
  rintro e w1 ⟨rfl, rfl⟩
  go_wp2_with fail
  refine (stack_of _).mono ?_
  rintro e w2 ⟨rfl, rfl⟩
  go_wp2_with fail
  refine (finger_of _).mono ?_
  rintro e w4 ⟨rfl, hk⟩
  have bq := ((((Blk.new w #[.slice none 0 0, .int .i64 0, .int .i64 0] 88).alloc (.cells #[.pointer none, .int .i64 0] 92)).alloc (.cells #[.pointer p, .int .i64 root, .int .i64 0, .pointer (some ⟨w.heap.size, 0, none⟩), .pointer (some ⟨w.heap.size + 1, 0, none⟩), .slice none 0 0, .int .i64 0, .int .i64 0, .bool false, .bool false, .bool false] 50))).keep (by exact hk) (by simp)
  have bs : Blk (((w.alloc (.cells #[.slice none 0 0, .int .i64 0, .int .i64 0] 88)).alloc (.cells #[.pointer none, .int .i64 0] 92)).alloc (.cells #[.pointer p, .int .i64 root, .int .i64 0, .pointer (some ⟨w.heap.size, 0, none⟩), .pointer (some ⟨w.heap.size + 1, 0, none⟩), .slice none 0 0, .int .i64 0, .int .i64 0, .bool false, .bool false, .bool false] 50)) (w.heap.size + 2) #[.pointer p, .int .i64 root, .int .i64 0, .pointer (some ⟨w.heap.size, 0, none⟩), .pointer (some ⟨w.heap.size + 1, 0, none⟩), .slice none 0 0, .int .i64 0, .int .i64 0, .bool false, .bool false, .bool false] 50 := by simpa using Blk.new ((w.alloc (.cells #[.slice none 0 0, .int .i64 0, .int .i64 0] 88)).alloc (.cells #[.pointer none, .int .i64 0] 92)) #[.pointer p, .int .i64 root, .int .i64 0, .pointer (some ⟨w.heap.size, 0, none⟩), .pointer (some ⟨w.heap.size + 1, 0, none⟩), .slice none 0 0, .int .i64 0, .int .i64 0, .bool false, .bool false, .bool false] 50
  have bs4 := bs.keep hk (by simp)
  have kw : Keeps [] w w4 := ((((Keeps.refl [] w).alloc _).alloc _).alloc _).trans0 hk
  have s5 := bs4.cell 5
  have f5 := bs4.frozen 5
  have hlt := bs4.lt
  have H4 := Lib.hid (And.intro bq (And.intro bs4 kw))
  clear bq bs bs4 kw hk
  go_wp2_with fail
  obtain ⟨bq, bs4, kw⟩ := H4.out
  have bs5 : Blk (w4.setCell ⟨w.heap.size + 2, 5, none⟩ (.slice none 0 0)) (w.heap.size + 2) #[.pointer p, .int .i64 root, .int .i64 0, .pointer (some ⟨w.heap.size, 0, none⟩), .pointer (some ⟨w.heap.size + 1, 0, none⟩), .slice none 0 0, .int .i64 0, .int .i64 0, .bool false, .bool false, .bool false] 50 := by simpa using bs4.setCell 5 (.slice none 0 0)
  have bq5 := bq.setOther (p := ⟨w.heap.size + 2, 5, none⟩) (by dsimp only; omega) (.slice none 0 0)
  have kw5 := kw.setCell (p := ⟨w.heap.size + 2, 5, none⟩) (.inr (by dsimp only; omega)) (.slice none 0 0)
  refine (search_next0 (x := .slice none 0 0) ⟨_, _, _, rfl⟩ ⟨bs5⟩ bq5).mono ?_
  rintro e w6 ⟨rfl, a, ha, hQ, hk6⟩
  have H6 := Lib.hid (And.intro (kw5.trans hk6 (fun y hy => .inr (by simp at hy; omega))) (And.intro (bs5.keep hk6 (by simp)) (And.intro hQ (Nat.le_trans kw5.size ha))))
  clear bq bs4 kw bs5 bq5 kw5 ha hQ hk6 s5 f5
  go_wp2
  go_ret
  obtain ⟨h1, h2, h3, h4⟩ := H6.out
  exact ⟨_, _, _, a, rfl, ⟨h2⟩, h3, by omega, Nat.le_refl _, by omega, h4, h1⟩

end Go.Proofs.YtokbjopmfcggdaaGreat
