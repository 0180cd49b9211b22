/- A search by breadth with one task: walk.Through, walk.Look at a node that is done; Next. -/
import Derived.Test.YtokbjopmfcggdaaGreatSrchB
import Derived.Laws.EntriesVeiled
namespace Go.Proofs.YtokbjopmfcggdaaGreat
open Go.RowKit
set_option linter.unusedVariables false
set_option linter.unusedSimpArgs false
set_option linter.unnecessarySimpa false

theorem cnt_pos {G : List (Option Nd)} {i : Int} {nd : Nd} (h : gget G i = some nd) : 0 < cnt G := by
  obtain ⟨h0, h1, nd', h2, h3⟩ := gget_some (i := i) (G := G) (by rw [h]; rfl)
  unfold cnt
  rw [List.count_pos_iff]
  exact List.mem_map.2 ⟨some nd', List.mem_of_getElem? h2, rfl⟩

theorem GrAt.notIn {w : World} {g x : Nat} {F : List Nat} {E : Nat → Prop} {G : List (Option Nd)} {most : Nat} {cs : Array Value} {t : TypeId} (h : GrAt w g F E G most) (hb : Blk w x cs t) (h1 : t ≠ 138) (h2 : 79 ≠ t) (h3 : 4 ≠ t) : x ∉ F := by
  obtain ⟨b, vl, vu, A, hi, rfl⟩ := h
  intro hg
  simp only [foot, List.mem_cons, List.mem_append, Option.mem_toList, Option.mem_def] at hg
  rcases hg with rfl | hg | hg
  · exact hb.ne hi.ar.blk h1 rfl
  · exact own_tag hi.ar.own hg hb h2
  · exact own_tag hi.ar.used hg hb h3

def GSomePost (w : World) (nd : Nd) (e : Ending) (w' : World) : Prop :=
  ∃ v, e = .returned (.tuple #[.agg #[.int .i64 nd.kind, .int .i64 nd.n, v], .bool true]) ∧ w'.ownsRow w.heap.size 3 1 v nd.args.length (ints nd.args) ∧ Keeps [] w w'
theorem node_get_some {w : World} {g : Nat} {F : List Nat} {E : Nat → Prop} {G : List (Option Nd)} {most : Nat} (h : GrAt w g F E G most) (i : Int) {nd : Nd} (hn : gget G i = some nd) : Calls Tryz.prog 39 #[.pointer (some ⟨g, 0, none⟩), .int .i64 i] w (GSomePost w nd) := by
  refine (node_get h i).mono ?_
  rintro e w' ⟨v, rfl, ho, hk⟩
  rw [hn] at ho ⊢
  exact ⟨v, rfl, ho, hk⟩

set_option maxHeartbeats 1000000 in
set_option maxRecDepth 100000 in
theorem walk_through1 {w : World} {g : Nat} {F : List Nat} {E : Nat → Prop} {G : List (Option Nd)} {most : Nat} {x : Value} {nd : Nd} (h : GrAt w g F E G most) (i : Int) (hx : ∃ b n c, x = .slice b n c) (hn : gget G (follow G i) = some nd) (hk3 : nd.kind ≠ 3) (hk11 : nd.kind ≠ 11) :
    Calls Tryz.prog 38 #[.pointer (some ⟨g, 0, none⟩), .agg #[x], .int .i64 i] w (RetVal w (.tuple #[.int .i64 (follow G i), .bool true])) := by
  obtain ⟨xb, xn, xc, rfl⟩ := hx
  have q3 : (nd.kind != 3) = true := by simp [hk3]
  have q11 : (nd.kind != 11) = true := by simp [hk11]
  have hcl := h.cntLe
  have hcp := cnt_pos hn
  have hf : ∀ w', Keeps [] w w' → Calls Tryz.prog 66 #[.pointer (some ⟨g, 0, none⟩), .int .i64 i] w' (RetInt w' (follow G i)) := fun w' k => node_follow (h.keep0 k) i
  have hl := fun w' (k : Keeps [] w w') => node_len (h.keep0 k)
  have hg := fun w' (k : Keeps [] w w') => node_get_some (h.keep0 k) (follow G i) hn
  have HF := Lib.hid (And.intro hf (And.intro hl hg))
  clear hf hl hg h hn hk3 hk11
  generalize follow G i = r at *
  generalize hc : cnt G = c at *
  clear hc
  go_enter Tryz.func38, Tryz.ntmps38
  go_wp2_with (first | (go_at_call 66; refine (HF.out.1 _ (by exact (Keeps.refl _ _).alloc _)).mono ?_; rintro e w1 ⟨rfl, hk1⟩; have H1 := Lib.hid (((Keeps.refl [] w).alloc (.cells #[.slice xb xn xc] 31)).trans0 hk1); clear hk1) | (go_at_call 41; refine (HF.out.2.1 _ H1.out).mono ?_; rintro e w2 ⟨rfl, rfl⟩))
  go_loopg [2, 19] 1 (fun q s2 s19 wr => q = 1 ∧ s2 = .int .i64 r ∧ s19 = .int .i64 0 ∧ Keeps [] w wr)
  case atStart => exact ⟨rfl, rfl, rfl, H1.out⟩
  case round =>
    obtain ⟨rfl, rfl, rfl, hkr⟩ := hrel
    have HR := Lib.hid hkr
    clear hkr
    go_wp2_with fail
    refine (HF.out.2.2 _ HR.out).mono ?_
    rintro e w3 ⟨v3, rfl, ho, hk3⟩
    obtain ⟨vb, vc, rfl, _⟩ := ownsRow_zero ho
    have H3 := Lib.hid (HR.out.trans0 hk3)
    clear ho hk3
    generalize nd.kind = k at *
    generalize nd.n = n at *
    generalize nd.args.length = L at *
    go_wp2
    refine bodyPost_ret (v := .tuple #[.int .i64 r, .bool true]) (by simp [results, Tryz.results38, go_sem, *]) rfl ?_
    exact ⟨rfl, H3.out.alloc _⟩

theorem zero_bool (w : World) : (zeroValue 4).run Tryz.prog w = .ok (.bool false) w := by
  obtain ⟨i, h1, h2⟩ := Option.map_eq_some_iff.1 Tryz.info4
  simp only [Prod.mk.injEq] at h2
  exact zero_of_info h1 h2.1 w

set_option maxHeartbeats 2000000 in
theorem walk_look1 {w : World} {g b2 b3 b4 mb : Nat} {p5 : Value} {F : List Nat} {E : Nat → Prop} {G : List (Option Nd)} {most : Nat} {x : Value} {nd : Nd} {t2 t3 t4 : TypeId} (h : GrAt w g F E G most) (i left : Int) (hx : ∃ b n c, x = .slice b n c) (hn : gget G (follow G i) = some nd) (hk : nd.kind = 6) (hl : 0 ≤ left)
    (h2 : Blk w b2 #[.pointer (some ⟨g, 0, none⟩)] t2) (h3 : Blk w b3 #[x] t3) (h4 : Blk w b4 #[.map (some mb)] t4) (hm : MapAt w mb []) :
    Calls Tryz.prog 37 #[.int .i64 i, .int .i64 left, .pointer (some ⟨b2, 0, none⟩), .pointer (some ⟨b3, 0, none⟩), .pointer (some ⟨b4, 0, none⟩), p5] w (RetVal w (.tuple #[.int .i64 0, .int .i64 0])) := by
  obtain ⟨xb, xn, xc, rfl⟩ := hx
  have c2 := h2.cell 0
  have c3 := h3.cell 0
  have ht := walk_through1 h i ⟨xb, xn, xc, rfl⟩ hn (by omega) (by omega)
  have hg := fun w' (k : Keeps [] w w') => node_get_some (h.keep0 k) (follow G i) hn
  have HT := Lib.hid (And.intro ht (And.intro hg (And.intro h2 (And.intro h4 hm))))
  have hlz := fun w => node_lazy 6 w
  clear ht hg h hn h2 h3 h4 hm
  generalize follow G i = r at *
  go_enter Tryz.func37, Tryz.ntmps37
  go_wp2_with fail
  refine HT.out.1.mono ?_
  rintro e w1 ⟨rfl, hk1⟩
  have d2 := (HT.out.2.2.1.keep hk1 (by simp)).cell 0
  have H1 := Lib.hid hk1
  clear hk1
  go_wp2_with fail
  refine (HT.out.2.1 _ H1.out).mono ?_
  rintro e w2 ⟨v2, rfl, ho, hk2⟩
  obtain ⟨vb, vc, rfl, _⟩ := ownsRow_zero ho
  rw [hk] at *
  have H2 := Lib.hid (H1.out.trans0 hk2)
  have d4 := (HT.out.2.2.2.1.keep H2.out (by simp)).cell 0
  have hlt4 := (HT.out.2.2.2.1.keep H2.out (by simp)).lt
  have hmo : ∀ o : Obj, MapAt (w2.alloc o) mb [] := fun o => MapAt.keep (M := []) HT.out.2.2.2.2 (H2.out.alloc o) List.not_mem_nil
  have hlook : ∀ o : Obj, (Instr.lookup 74 (.map (some mb)) (.int .i64 r) false).run Tryz.prog (w2.alloc o) = .ok (.bool false) (w2.alloc o) := fun o => by
    have := run_lookup_i (hmo o) Tryz.underlying74 Tryz.underlying3 (zero_bool _) r
    exact this
  clear ho hk2 hmo
  generalize nd.n = n at *
  generalize nd.args.length = L at *
  go_wp2_with (go_at_call 40; refine (hlz _).mono ?_; rintro e w' ⟨rfl, rfl⟩)
  refine bodyPost_ret (v := .tuple #[.int .i64 0, .int .i64 0]) (by simp [results, Tryz.results37, go_sem, *]) rfl ?_
  exact ⟨rfl, H2.out.alloc _⟩

theorem boxes5 (w : World) (o0 o1 o3 o4 : Array Value) (t0 t1 t3 t4 : TypeId) :
    Blk (((((w.alloc (.cells o0 t0)).alloc (.cells o1 t1)).alloc (.map #[] 0)).alloc (.cells o3 t3)).alloc (.cells o4 t4)) w.heap.size o0 t0 ∧
    Blk (((((w.alloc (.cells o0 t0)).alloc (.cells o1 t1)).alloc (.map #[] 0)).alloc (.cells o3 t3)).alloc (.cells o4 t4)) (w.heap.size + 1) o1 t1 ∧
    MapAt (((((w.alloc (.cells o0 t0)).alloc (.cells o1 t1)).alloc (.map #[] 0)).alloc (.cells o3 t3)).alloc (.cells o4 t4)) (w.heap.size + 1 + 1) [] ∧
    Blk (((((w.alloc (.cells o0 t0)).alloc (.cells o1 t1)).alloc (.map #[] 0)).alloc (.cells o3 t3)).alloc (.cells o4 t4)) (w.heap.size + 1 + 1 + 1) o3 t3 ∧
    Blk (((((w.alloc (.cells o0 t0)).alloc (.cells o1 t1)).alloc (.map #[] 0)).alloc (.cells o3 t3)).alloc (.cells o4 t4)) (w.heap.size + 1 + 1 + 1 + 1) o4 t4 ∧
    Keeps [] w (((((w.alloc (.cells o0 t0)).alloc (.cells o1 t1)).alloc (.map #[] 0)).alloc (.cells o3 t3)).alloc (.cells o4 t4)) := by
  have a1 := Blk.new (w.alloc (.cells o0 t0)) o1 t1
  have a2 := MapAt.new ((w.alloc (.cells o0 t0)).alloc (.cells o1 t1))
  have a3 := Blk.new (((w.alloc (.cells o0 t0)).alloc (.cells o1 t1)).alloc (.map #[] 0)) o3 t3
  have a4 := Blk.new ((((w.alloc (.cells o0 t0)).alloc (.cells o1 t1)).alloc (.map #[] 0)).alloc (.cells o3 t3)) o4 t4
  have s1 : ∀ (w : World) (o : Obj), (w.alloc o).heap.size = w.heap.size + 1 := fun w o => by simp
  rw [s1] at a1
  rw [s1, s1] at a2
  rw [s1, s1, s1] at a3
  rw [s1, s1, s1, s1] at a4
  exact ⟨((((Blk.new w o0 t0).alloc _).alloc _).alloc _).alloc _, ((a1.alloc _).alloc _).alloc _, MapAt.keep (M := []) a2 (((Keeps.refl _ _).alloc _).alloc _) List.not_mem_nil, a3.alloc _, a4, ((((((Keeps.refl [] w).alloc _).alloc _).alloc _).alloc _).alloc _)⟩

set_option maxHeartbeats 1000000 in
set_option maxRecDepth 100000 in
theorem walk_Look {w : World} {g : Nat} {F : List Nat} {E : Nat → Prop} {G : List (Option Nd)} {most : Nat} {x : Value} {nd : Nd} (h : GrAt w g F E G most) (i : Int) (hx : ∃ b n c, x = .slice b n c) (hn : gget G (follow G i) = some nd) (hk : nd.kind = 6) :
    Calls Tryz.prog 19 #[.pointer (some ⟨g, 0, none⟩), .agg #[x], .int .i64 i] w (RetVal w (.tuple #[.int .i64 0, .int .i64 0])) := by
  obtain ⟨xb, xn, xc, rfl⟩ := hx
  have hmm := @run_makeMap Tryz.prog
  have hl := fun w' (k : Keeps [] w w') => node_len (h.keep0 k)
  have hlk := fun w' (k : Keeps [] w w') (b2 b3 b4 mb : Nat) (p5 : Value) (t2 t3 t4 : TypeId) (h2 : Blk w' b2 #[.pointer (some ⟨g, 0, none⟩)] t2) (h3 : Blk w' b3 #[.slice xb xn xc] t3) (h4 : Blk w' b4 #[.map (some mb)] t4) (hm : MapAt w' mb []) => walk_look1 (p5 := p5) (h.keep0 k) i (cnt G : Nat) ⟨xb, xn, xc, rfl⟩ hn hk (by omega) h2 h3 h4 hm
  have HL := Lib.hid (And.intro hl hlk)
  have hcl := h.cntLe
  clear hl hlk h hn hk
  generalize cnt G = c at *
  go_enter Tryz.func19, Tryz.ntmps19
  go_upto_region 4 with fail
  refine wp_world (fun wx => Blk wx w.heap.size #[.pointer (some ⟨g, 0, none⟩)] 55 ∧ Blk wx (w.heap.size + 1) #[.slice xb xn xc] 31 ∧ MapAt wx (w.heap.size + 1 + 1) [] ∧ Blk wx (w.heap.size + 1 + 1 + 1) #[.map (some (w.heap.size + 1 + 1))] 74 ∧ Blk wx (w.heap.size + 1 + 1 + 1 + 1) #[.func (.func 37) #[] #[.pointer (some ⟨w.heap.size, 0, none⟩), .pointer (some ⟨w.heap.size + 1, 0, none⟩), .pointer (some ⟨w.heap.size + 1 + 1 + 1, 0, none⟩), .pointer (some ⟨w.heap.size + 1 + 1 + 1 + 1, 0, none⟩)]] 75 ∧ Keeps [] w wx) (boxes5 _ _ _ _ _ _ _ _ _) ?_
  rintro wx ⟨h0, h1, h2, h3, h4, hk⟩
  refine wp_region_X (fun w' => w'.cell? ⟨w.heap.size, 0, none⟩ = some (.pointer (some ⟨g, 0, none⟩)) ∧ w'.cell? ⟨w.heap.size + 1 + 1 + 1 + 1, 0, none⟩ = some (.func (.func 37) #[] #[.pointer (some ⟨w.heap.size, 0, none⟩), .pointer (some ⟨w.heap.size + 1, 0, none⟩), .pointer (some ⟨w.heap.size + 1 + 1 + 1, 0, none⟩), .pointer (some ⟨w.heap.size + 1 + 1 + 1 + 1, 0, none⟩)])) [4, 5, 6, 7, 8] (by kernel_rfl) ?_
  have hS : wx.drew.cell? ⟨w.heap.size, 0, none⟩ = some (.pointer (some ⟨g, 0, none⟩)) ∧ wx.drew.cell? ⟨w.heap.size + 1 + 1 + 1 + 1, 0, none⟩ = some (.func (.func 37) #[] #[.pointer (some ⟨w.heap.size, 0, none⟩), .pointer (some ⟨w.heap.size + 1, 0, none⟩), .pointer (some ⟨w.heap.size + 1 + 1 + 1, 0, none⟩), .pointer (some ⟨w.heap.size + 1 + 1 + 1 + 1, 0, none⟩)]) := ⟨h0.cell 0, h4.cell 0⟩
  have H0 := Lib.hid (And.intro h0.drew (And.intro h1.drew (And.intro h2.drew (And.intro h3.drew hk.drew))))
  clear h0 h1 h2 h3 h4 hk
  refine wpAnyX_take [0, 1, 2] 6 (by kernel_rfl) (fun _ _ d _ _ h => by cases d <;> exact h) (by kernel_rfl) (by simp only [List.map_cons, List.map_nil, List.getElem?_toArray, List.getElem?_cons_zero, List.getElem?_cons_succ]; rfl) hS ?_
  repeat (refine SegThen.step (v := ?_) (by rfl) (fun w' hSw => ?_) ?_; rotate_left 1; (focus ((try dsimp only at hSw); go_simp; (try with_reducible rfl))); simp only [Act.put, List.setIfInBounds_toArray, List.set_cons_zero, List.set_cons_succ])
  refine SegThen.nil ?_
  refine wpAnyX_one 3 (by kernel_rfl) (by simp only [List.getElem?_toArray, List.getElem?_cons_zero, List.getElem?_cons_succ]; rfl) ?_
  go_wp2_with (go_at_call 41; refine (HL.out.1 _ H0.out.2.2.2.2).mono ?_; rintro e w' ⟨rfl, rfl⟩)
  refine QX_intro (fun _ => hS) ?_
  refine wpAnyX_run [4] _ 4 (by kernel_rfl) (by simp only [List.map_cons, List.map_nil, List.getElem?_toArray, List.getElem?_cons_zero, List.getElem?_cons_succ]; rfl) rfl ?_
  dsimp only [List.filterMap, id]
  clear hS
  go_wp2_with fail
  refine (HL.out.2 _ H0.out.2.2.2.2 _ _ _ _ _ _ _ _ H0.out.1 H0.out.2.1 H0.out.2.2.2.1 H0.out.2.2.1).mono ?_
  rintro e w1 ⟨rfl, hk1⟩
  have H1 := Lib.hid (H0.out.2.2.2.2.trans0 hk1)
  clear hk1
  go_wp2
  refine QR_intro ?_
  refine wpAnyX_take0 [5, 6, 7, 8] 0 (by kernel_rfl) (fun _ _ d _ _ h => by cases d <;> exact h) (by kernel_rfl) (by simp only [List.map_cons, List.map_nil, List.getElem?_toArray, List.getElem?_cons_zero, List.getElem?_cons_succ]; rfl) ?_
  repeat (refine SegThen.step (v := ?_) (by rfl) (fun w' hSw => ?_) ?_; rotate_left 1; (focus ((try dsimp only at hSw); go_simp; (try with_reducible rfl))); simp only [Act.put, List.setIfInBounds_toArray, List.set_cons_zero, List.set_cons_succ])
  refine SegThen.nil ?_
  refine wpAnyX_done (by kernel_rfl) ?_
  go_wp2
  refine bodyPost_ret (v := .tuple #[.int .i64 0, .int .i64 0]) (by simp [results, Tryz.results19, go_sem, *]) rfl ?_
  exact ⟨rfl, H1.out⟩

end Go.Proofs.YtokbjopmfcggdaaGreat
