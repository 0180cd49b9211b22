/- step: New of the empty program, Add, Graph, become. -/
import Derived.Test.YtokbjopmfcggdaaGreatMakeF
import Derived.Test.YtokbjopmfcggdaaGreatPrim
namespace Go.Proofs.YtokbjopmfcggdaaGreat
open Go.RowKit
set_option linter.unusedVariables false
set_option linter.unusedSimpArgs false
set_option linter.unnecessarySimpa false

theorem funs_index_nil (f : Value) (w : World) : Calls Tryz.prog 79 #[.slice none 0 0, f] w (PInt w (-1)) := by
  go_enter Tryz.func79, Tryz.ntmps79
  go_wp2
  go_loopg [8] 0 (fun q s8 wr => q = 0 ∧ s8 = .int .i64 0 ∧ wr = w)
  case atStart => exact ⟨rfl, rfl, rfl⟩
  case round =>
    obtain ⟨rfl, rfl, rfl⟩ := hrel
    go_wp2
    go_ret
    exact PInt.mk rfl
theorem funs_contains_nil (f : Value) (w : World) : Calls Tryz.prog 57 #[.slice none 0 0, f] w (PBool w false) := by
  go_enter Tryz.func57, Tryz.ntmps57
  go_wp2_with (go_at_call 79; refine (funs_index_nil _ _).mono ?_; rintro e w' ⟨rfl, rfl⟩)
  go_ret
  exact PBool.mk rfl

def prog0 : Value := .agg #[.slice none 0 0, .slice none 0 0, .slice none 0 0]
theorem core_right_nil (w : World) : Calls Tryz.prog 32 #[prog0] w (RetBool w true) := by
  unfold prog0
  go_enter Tryz.func32, Tryz.ntmps32
  go_wp2
  go_loopg [12] 0 (fun q s12 wr => q = 0 ∧ s12 = .int .i64 0 ∧ wr = w.alloc (.cells #[.slice none 0 0, .slice none 0 0, .slice none 0 0] 40))
  case atStart => exact ⟨rfl, rfl, rfl⟩
  case round =>
    obtain ⟨rfl, rfl, rfl⟩ := hrel
    go_wp2
    go_loopg [56] 0 (fun q s12 wr => q = 0 ∧ s12 = .int .i64 0 ∧ wr = w.alloc (.cells #[.slice none 0 0, .slice none 0 0, .slice none 0 0] 40))
    case atStart => exact ⟨rfl, rfl, rfl⟩
    case round =>
      obtain ⟨rfl, rfl, rfl⟩ := hrel
      go_wp2_with (go_at_call 57; refine (funs_contains_nil _ _).mono ?_; rintro e w' ⟨rfl, rfl⟩)
      go_ret
      exact RetBool.mk rfl ((Keeps.refl _ _).alloc _)

/-- A machine in memory. -/
structure MachAt (w : World) (m g : Nat) (F : List Nat) (E : Nat → Prop) (G : List (Option Nd)) (most : Nat) (p0 p1 p2 : Value) (id steps : Int) : Prop where
  blk : Blk w m #[p0, p1, p2, .pointer (some ⟨g, 0, none⟩), .int .i64 id, .int .i64 steps] 70
  gr : GrAt w g F E G most
  notF : m ∉ F

def MNewPost (w : World) (n : Int) (e : Ending) (w' : World) : Prop :=
  ∃ m g F, e = .returned (.pointer (some ⟨m, 0, none⟩)) ∧ w.heap.size ≤ m ∧ (∀ x ∈ F, w.heap.size ≤ x) ∧ MachAt w' m g F (fun x => x < w.heap.size) [] (clampMost n) (.slice none 0 0) (.slice none 0 0) (.slice none 0 0) 0 0 ∧ Keeps [] w w'

theorem step_new (n : Int) (w : World) : Calls Tryz.prog 15 #[prog0, .int .i64 n] w (MNewPost w n) := by
  unfold prog0
  go_enter Tryz.func15, Tryz.ntmps15
  go_upto_region 3 with (go_at_call 32; refine (core_right_nil _).mono ?_; rintro e w1 ⟨rfl, hk1⟩)
  have b1 := (Blk.new w #[.slice none 0 0, .slice none 0 0, .slice none 0 0] 40).keep hk1 (by simp)
  have kw1 : Keeps [] w w1 := ((Keeps.refl _ _).alloc _).trans0 hk1
  refine wp_region_X (fun w' => w'.cell? ⟨w.heap.size, 0, none⟩ = some (.slice none 0 0) ∧ w'.cell? ⟨w.heap.size, 1, none⟩ = some (.slice none 0 0) ∧ w'.cell? ⟨w.heap.size, 2, none⟩ = some (.slice none 0 0)) [3, 4, 5] (by kernel_rfl) ?_
  have hS0 := cells3 b1.drew
  refine wpAnyX_take [0, 1] 4 (by kernel_rfl) (fun _ _ d _ _ h => by cases d <;> exact h) (by kernel_rfl) (by simp only [List.map_cons, List.map_nil, List.getElem?_toArray, List.getElem?_cons_zero, List.getElem?_cons_succ]; rfl) hS0 ?_
  repeat (refine SegThen.step (v := ?_) (by rfl) (fun w' hSw => ?_) ?_; rotate_left 1; (focus ((try dsimp only at hSw); go_simp; (try with_reducible rfl))); simp only [Act.put, List.setIfInBounds_toArray, List.set_cons_zero, List.set_cons_succ])
  refine SegThen.nil ?_
  clear hS0
  refine wpAnyX_one 2 (by kernel_rfl) (by simp only [List.getElem?_toArray, List.getElem?_cons_zero, List.getElem?_cons_succ]; rfl) ?_
  go_wp2_with fail
  refine (node_new n _).mono ?_
  rintro e w2 ⟨g, F, rfl, hg1, hF, hG, hk2⟩
  have b2 := b1.drew.keep hk2 (by simp)
  have H := Lib.hid (And.intro hg1 (And.intro hF (And.intro hG (And.intro hk2 (And.intro kw1 b2)))))
  clear hg1 hF hG hk2 kw1 hk1 b1 b2
  go_wp2_with fail
  refine QX_intro (fun _ => by exact cells3 H.out.2.2.2.2.2) ?_
  refine wpAnyX_take0 [3] 2 (by kernel_rfl) (fun _ _ d _ _ h => by cases d <;> exact h) (by kernel_rfl) (by simp only [List.map_cons, List.map_nil, List.getElem?_toArray, List.getElem?_cons_zero, List.getElem?_cons_succ]; rfl) ?_
  repeat (refine SegThen.step (v := ?_) (by rfl) (fun w' hSw => ?_) ?_; rotate_left 1; (focus ((try dsimp only at hSw); go_simp; (try with_reducible rfl))); simp only [Act.put, List.setIfInBounds_toArray, List.set_cons_zero, List.set_cons_succ])
  refine SegThen.nil ?_
  refine wpAnyX_tail [4, 5] _ (by kernel_rfl) (by simp only [List.map_cons, List.map_nil, List.getElem?_toArray, List.getElem?_cons_zero, List.getElem?_cons_succ]; rfl) rfl ?_
  dsimp only [List.filterMap, id]
  go_wp2
  go_ret
  obtain ⟨hg1, hF, hG, hk2, kw1, b2⟩ := H.out
  have hs1 := kw1.size
  have hs2 := hk2.size
  have kw2 : Keeps [] w w2 := kw1.trans0 hk2.drewL
  have hF' : ∀ x ∈ F, w.heap.size ≤ x := fun x hx => Nat.le_trans hs1 (hF x hx)
  have hFl := hG.lt.1
  refine ⟨w2.heap.size, g, F, rfl, Nat.le_trans hs1 hs2, hF', ⟨Blk.new _ _ _, (hG.apart (fun x hx _ => Nat.lt_of_lt_of_le hx hs1)).keep0 ((Keeps.refl _ _).alloc _), fun hh => ?_⟩, kw2.alloc _⟩
  have := hFl _ hh; omega

theorem step_graph {w : World} {m g : Nat} {F : List Nat} {E : Nat → Prop} {G : List (Option Nd)} {most : Nat} {p0 p1 p2 : Value} {id steps : Int} (h : MachAt w m g F E G most p0 p1 p2 id steps) :
    Calls Tryz.prog 20 #[.pointer (some ⟨m, 0, none⟩)] w fun e w' => e = .returned (.pointer (some ⟨g, 0, none⟩)) ∧ w = w' := by
  have c0 := h.blk.cell 3
  clear h
  go_enter Tryz.func20, Tryz.ntmps20
  go_wp2
  go_ret
  exact ⟨rfl, rfl⟩

theorem cells6 {w : World} {x : Nat} {c0 c1 c2 c3 c4 c5 : Value} {t : TypeId} (h : Blk w x #[c0, c1, c2, c3, c4, c5] t) : w.cell? ⟨x, 3, none⟩ = some c3 ∧ w.cell? ⟨x, 4, none⟩ = some c4 ∧ w.cell? ⟨x, 5, none⟩ = some c5 := ⟨h.cell 3, h.cell 4, h.cell 5⟩
/-- A cell of the machine is written. -/
theorem GrAt.setM {w : World} {m g o : Nat} {F : List Nat} {E : Nat → Prop} {G : List (Option Nd)} {most : Nat} {cs : Array Value} (hg : GrAt w g F E G most) (hb : Blk w m cs 70) (hm : m ∉ F) (v : Value) : GrAt (w.setCell ⟨m, o, none⟩ v) g F E G most := by
  obtain ⟨b, hbg⟩ := hg.blkG
  refine hg.keep (M := [m]) ((Keeps.refl _ _).setCell (.inl (by simp)) _) (fun x hx _ => ?_)
  simp at hx
  subst hx
  refine ⟨hm, hb.ne hbg (by decide), .inr (fun cur fz hc => ?_)⟩
  have := hb; unfold Blk at this; rw [this] at hc; injection hc with hc; injection hc with _ h3 _; exact absurd h3 (by decide)

def AddPost (w : World) (m g : Nat) (F : List Nat) (E : Nat → Prop) (most : Nat) (p0 p1 p2 : Value) (steps : Int) (r : (Int × Int × Int) × List (Option Nd)) (e : Ending) (w' : World) : Prop :=
  ∃ F', e = .returned (.tuple #[.int .i64 r.1.1, .int .i64 r.1.2.2]) ∧ MachAt w' m g F' E r.2 most p0 p1 p2 r.1.2.1 steps ∧ Keeps (m :: F) w w' ∧ ∀ x ∈ F', x ∈ F ∨ w.heap.size ≤ x

set_option maxHeartbeats 1000000 in
set_option maxRecDepth 100000 in
theorem step_add {S T : Nat → Prop} {w : World} {c : Core} {v va : Value} {l : List Int} {m g : Nat} {F : List Nat} {E : Nat → Prop} {most : Nat} {G : List (Option Nd)} {p0 p1 p2 : Value} {idn steps : Int} (hc : csize c ≤ 500000) (hl : l.length ≤ 1000000) (h : CoreAt S w c v) (hS : ∀ b, S b → b < w.heap.size ∧ b ∉ F)
    (hr : RowAt T w 1 va l.length (ints l)) (hT : ∀ b, T b → b < w.heap.size) (hm : MachAt w m g F E G most p0 p1 p2 idn steps) (hE : ∀ x, E x → x < w.heap.size) (h0 : 0 ≤ idn) (h4 : idn + csize c ≤ 4000000000) :
    Calls Tryz.prog 16 #[.pointer (some ⟨m, 0, none⟩), v, va] w (AddPost w m g F E most p0 p1 p2 steps (makeF most G c l idn)) := by
  obtain ⟨base, cap, rfl, hc1, hc2⟩ := h.form
  obtain ⟨ab, ac, rfl, hac1, hac2, _⟩ := row_at hr
  have kk : Keeps [] w (w.alloc (.cells #[.int .i64 c.kind, .int .i64 c.n, .slice base c.args.length cap] 46)).drew := ((Keeps.refl _ _).alloc _).drew
  have hM := build_Make (w := (w.alloc (.cells #[.int .i64 c.kind, .int .i64 c.n, .slice base c.args.length cap] 46)).drew) hc hl (CoreAt.keep (kk.fix (fun b hb => ⟨(hS b hb).1, by simp⟩)) _ _ h) (fun b hb => ⟨Nat.lt_of_lt_of_le (hS b hb).1 kk.size, (hS b hb).2⟩) (hr.keep (kk.fix (fun b hb => ⟨hT b hb, by simp⟩))) (fun b hb => Nat.lt_of_lt_of_le (hT b hb) kk.size) (hm.gr.keep0 kk) (fun x hx => Nat.lt_of_lt_of_le (hE x hx) kk.size) h0 h4
  have bE := Blk.new w #[.int .i64 c.kind, .int .i64 c.n, .slice base c.args.length cap] 46
  have bm := hm.blk.keep kk (by simp)
  have hml := hm.blk.lt
  have HH := Lib.hid (And.intro hM (And.intro hm (And.intro kk bm)))
  clear hM hm h hS hr hT kk
  generalize c.kind = k at *
  generalize c.n = n at *
  generalize c.args.length = M at *
  unfold maxLen at hc2 hac2
  go_enter Tryz.func16, Tryz.ntmps16
  go_upto_region 3 with fail
  refine wp_region_X (fun w' => (w'.cell? ⟨m, 3, none⟩ = some (.pointer (some ⟨g, 0, none⟩)) ∧ w'.cell? ⟨m, 4, none⟩ = some (.int .i64 idn) ∧ w'.cell? ⟨m, 5, none⟩ = some (.int .i64 steps)) ∧ w'.cell? ⟨w.heap.size, 0, none⟩ = some (.int .i64 k) ∧ w'.cell? ⟨w.heap.size, 1, none⟩ = some (.int .i64 n) ∧ w'.cell? ⟨w.heap.size, 2, none⟩ = some (.slice base M cap)) [10, 11, 12, 13, 14, 15, 16, 17] (by kernel_rfl) ?_
  have hS0 := And.intro (cells6 bm) (cells3 bE.drew)
  refine wpAnyX_take [0, 1, 2, 3, 4, 5, 6, 7, 8, 9] 8 (by kernel_rfl) (fun _ _ d _ _ h => by cases d <;> exact h) (by kernel_rfl) (by simp only [List.map_cons, List.map_nil, List.getElem?_toArray, List.getElem?_cons_zero, List.getElem?_cons_succ]; rfl) hS0 ?_
  repeat (refine SegThen.step (v := ?_) (by rfl) (fun w' hSw => ?_) ?_; rotate_left 1; (focus ((try dsimp only at hSw); go_simp; (try with_reducible rfl))); simp only [Act.put, List.setIfInBounds_toArray, List.set_cons_zero, List.set_cons_succ])
  refine SegThen.nil ?_
  refine wpAnyX_run [10, 11] _ 6 (by kernel_rfl) (by simp only [List.map_cons, List.map_nil, List.getElem?_toArray, List.getElem?_cons_zero, List.getElem?_cons_succ]; rfl) rfl ?_
  dsimp only [List.filterMap, id]
  clear hS0 bE bm
  go_wp2_with fail
  refine HH.out.1.mono ?_
  rintro e w1 ⟨F1, rfl, hg1, hk1, hF1⟩
  obtain ⟨_, hm, kk, bm⟩ := HH.out
  have bm1 := bm.keep hk1 hm.notF
  have y4 := bm1.cell 4
  have f4 := bm1.frozen 4
  have H1 := Lib.hid (And.intro hg1 (And.intro hk1 (And.intro hF1 (And.intro bm1 (And.intro kk hm)))))
  clear hg1 hk1 hF1 bm1 kk hm bm HH
  generalize makeF most G c l idn = r at *
  obtain ⟨⟨r0, r1, r2⟩, G1⟩ := r
  go_wp2
  refine QR_intro ?_
  refine wpAnyX_take0 [12, 13, 14] 3 (by kernel_rfl) (fun _ _ d _ _ h => by cases d <;> exact h) (by kernel_rfl) (by simp only [List.map_cons, List.map_nil, List.getElem?_toArray, List.getElem?_cons_zero, List.getElem?_cons_succ]; rfl) ?_
  repeat (refine SegThen.step (v := ?_) (by rfl) (fun w' hSw => ?_) ?_; rotate_left 1; (focus ((try dsimp only at hSw); go_simp; (try with_reducible rfl))); simp only [Act.put, List.setIfInBounds_toArray, List.set_cons_zero, List.set_cons_succ])
  refine SegThen.nil ?_
  refine wpAnyX_tail [15, 16, 17] _ (by kernel_rfl) (by simp only [List.map_cons, List.map_nil, List.getElem?_toArray, List.getElem?_cons_zero, List.getElem?_cons_succ]; rfl) rfl ?_
  dsimp only [List.filterMap, id]
  go_wp2
  go_ret2
  obtain ⟨hg1, hk1, hF1, bm1, kk, hm⟩ := H1.out
  have hmF1 : m ∉ F1 := fun hh => by
    rcases hF1 _ hh with h1 | h1
    · exact hm.notF h1
    · have := kk.size; omega
  refine ⟨F1, rfl, ⟨bm1.setCell 4 _, hg1.setM bm1 hmF1 _, hmF1⟩, (((kk.of0 (M := m :: F)).trans hk1 (fun x hx => .inl (by simp [hx]))).setCell (p := ⟨m, 4, none⟩) (.inl (by simp)) _), fun x hx => (hF1 x hx).imp (fun h => h) (fun h => by have := kk.size; omega)⟩

def SetPost' (w : World) (m g : Nat) (F : List Nat) (E : Nat → Prop) (most : Nat) (p0 p1 p2 : Value) (id steps : Int) (G : List (Option Nd)) (i : Int) (nd : Nd) (e : Ending) (w' : World) : Prop :=
  e = .returned (.tuple #[.int .i64 4, .int .i64 0]) ∧ MachAt w' m g F E (gset G i (some nd)) most p0 p1 p2 id steps ∧ Keeps F w w'

set_option maxHeartbeats 1000000 in
set_option maxRecDepth 100000 in
theorem step_become {S : Nat → Prop} {w : World} {m g : Nat} {F : List Nat} {E : Nat → Prop} {most : Nat} {G : List (Option Nd)} {p0 p1 p2 : Value} {idn steps : Int} (hm : MachAt w m g F E G most p0 p1 p2 idn steps) (hE : ∀ x, E x → x < w.heap.size) (i : Int) {k n : Int} {v : Value} {l : List Int} (hv : RowAt S w 1 v l.length (ints l)) (hS : ∀ b, S b → b < w.heap.size) (hl : l.length ≤ 1000000) :
    Calls Tryz.prog 114 #[.pointer (some ⟨m, 0, none⟩), .int .i64 i, .agg #[.int .i64 k, .int .i64 n, v]] w (SetPost' w m g F E most p0 p1 p2 idn steps G i ⟨k, n, l⟩) := by
  obtain ⟨vb, vc, rfl, _⟩ := hv.form
  have kk : Keeps [] w (w.alloc (.cells #[.int .i64 k, .int .i64 n, .slice vb l.length vc] 79)).drew := ((Keeps.refl _ _).alloc _).drew
  have hM := node_set (w := (w.alloc (.cells #[.int .i64 k, .int .i64 n, .slice vb l.length vc] 79)).drew) (hm.gr.keep0 kk) (fun x hx => Nat.lt_of_lt_of_le (hE x hx) kk.size) i (k := k) (n := n) (hv.keep (kk.fix (fun b hb => ⟨hS b hb, by simp⟩))) (fun b hb => Nat.lt_of_lt_of_le (hS b hb) kk.size) hl
  have bE := Blk.new w #[.int .i64 k, .int .i64 n, .slice vb l.length vc] 79
  have bm := hm.blk.keep kk (by simp)
  have hml := hm.blk.lt
  have HH := Lib.hid (And.intro hM (And.intro hm (And.intro kk bm)))
  clear hM hm hv hS kk
  go_enter Tryz.func114, Tryz.ntmps114
  go_upto_region 1 with fail
  refine wp_region_X (fun w' => (w'.cell? ⟨m, 3, none⟩ = some (.pointer (some ⟨g, 0, none⟩)) ∧ w'.cell? ⟨m, 4, none⟩ = some (.int .i64 idn) ∧ w'.cell? ⟨m, 5, none⟩ = some (.int .i64 steps)) ∧ w'.cell? ⟨w.heap.size, 0, none⟩ = some (.int .i64 k) ∧ w'.cell? ⟨w.heap.size, 1, none⟩ = some (.int .i64 n) ∧ w'.cell? ⟨w.heap.size, 2, none⟩ = some (.slice vb l.length vc)) [6] (by kernel_rfl) ?_
  have hS0 := And.intro (cells6 bm) (cells3 bE.drew)
  refine wpAnyX_take [0, 1, 2, 3, 4, 5] 1 (by kernel_rfl) (fun _ _ d _ _ h => by cases d <;> exact h) (by kernel_rfl) (by simp only [List.map_cons, List.map_nil, List.getElem?_toArray, List.getElem?_cons_zero, List.getElem?_cons_succ]; rfl) hS0 ?_
  repeat (refine SegThen.step (v := ?_) (by rfl) (fun w' hSw => ?_) ?_; rotate_left 1; (focus ((try dsimp only at hSw); go_simp; (try with_reducible rfl))); simp only [Act.put, List.setIfInBounds_toArray, List.set_cons_zero, List.set_cons_succ])
  refine SegThen.nil ?_
  refine wpAnyX_tail [6] _ (by kernel_rfl) (by simp only [List.map_cons, List.map_nil, List.getElem?_toArray, List.getElem?_cons_zero, List.getElem?_cons_succ]; rfl) rfl ?_
  dsimp only [List.filterMap, id]
  clear hS0 bE bm
  go_wp2_with fail
  refine HH.out.1.mono ?_
  rintro e w1 ⟨rfl, hg1, hk1⟩
  have H1 := Lib.hid (And.intro hg1 hk1)
  clear hg1 hk1
  go_wp2
  go_ret2
  obtain ⟨_, hm, kk, bm⟩ := HH.out
  obtain ⟨hg1, hk1⟩ := H1.out
  exact ⟨rfl, ⟨bm.keep hk1 hm.notF, hg1, hm.notF⟩, (kk.of0 (M := F)).trans hk1 (fun x hx => .inl hx)⟩

end Go.Proofs.YtokbjopmfcggdaaGreat
