/- step: arg at a number. -/
import Derived.Test.YtokbjopmfcggdaaStep
namespace Go.Proofs.Ytokbjopmfcggdaa
open Go.RowKit
set_option linter.unusedVariables false
set_option linter.unusedSimpArgs false
set_option linter.unnecessarySimpa false

def ArgPost (w : World) (n : Int) (e : Ending) (w' : World) : Prop :=
  ∃ a l c, e = .returned (.tuple #[.agg #[.int .i64 6, .int .i64 n, .slice a l c], .int .i64 0, .int .i64 0]) ∧ Keeps [] w w'

set_option maxHeartbeats 1000000 in
set_option maxRecDepth 100000 in
theorem step_arg {S : Nat → Prop} {w : World} {m g : Nat} {F : List Nat} {E : Nat → Prop} {most : Nat} {G : List (Option Nd)} {p0 p1 p2 : Value} {idn steps : Int} (hm : MachAt w m g F E G most p0 p1 p2 idn steps) (i : Int) {kd n : Int} {v : Value} {l : List Int} (hv : RowAt S w 1 v l.length (ints l)) (hS : ∀ b, S b → b < w.heap.size) (k : Nat) (hk : k < l.length) (nd : Nd) (hnd : gget G (follow G (l.getD k 0)) = some nd) (h6 : nd.kind = 6) :
    Calls Try.prog 87 #[.pointer (some ⟨m, 0, none⟩), .int .i64 i, .agg #[.int .i64 kd, .int .i64 n, v], .int .i64 (k : Nat)] w (ArgPost w nd.n) := by
  obtain ⟨vb, vc, rfl, hc1, hc2, hrow⟩ := row_at hv
  obtain ⟨gv, off, rfl, hSv, hgv, hcell⟩ := hrow k hk
  have kk : Keeps [] w ((w.alloc (.cells #[.int .i64 kd, .int .i64 n, .slice (some ⟨gv, off, none⟩) l.length vc] 35)).alloc (.cells #[.int .i64 0, .int .i64 0, .slice none 0 0] 35)).drew := (((Keeps.refl _ _).alloc _).alloc _).drew
  have bE := (Blk.new w #[.int .i64 kd, .int .i64 n, .slice (some ⟨gv, off, none⟩) l.length vc] 35).alloc (.cells #[.int .i64 0, .int .i64 0, .slice none 0 0] 35)
  have bR : Blk ((w.alloc (.cells #[.int .i64 kd, .int .i64 n, .slice (some ⟨gv, off, none⟩) l.length vc] 35)).alloc (.cells #[.int .i64 0, .int .i64 0, .slice none 0 0] 35)) (w.heap.size + 1) #[.int .i64 0, .int .i64 0, .slice none 0 0] 35 := by simpa using Blk.new (w.alloc (.cells #[.int .i64 kd, .int .i64 n, .slice (some ⟨gv, off, none⟩) l.length vc] 35)) #[.int .i64 0, .int .i64 0, .slice none 0 0] 35
  have bm := hm.blk.keep kk (by simp)
  have hr0 := kk.cell hcell (by simp)
  have hml := hm.blk.lt
  have hF : ∀ w', Keeps [] w w' → Calls Try.prog 40 #[.pointer (some ⟨g, 0, none⟩), .int .i64 (l.getD k 0)] w' (FollowPost w' G (l.getD k 0)) := fun w' k' => node_follow (hm.gr.keep0 k') _
  have hG : ∀ w', Keeps [] w w' → Calls Try.prog 10 #[.pointer (some ⟨g, 0, none⟩), .int .i64 (follow G (l.getD k 0))] w' (GGetPost w' G (follow G (l.getD k 0))) := fun w' k' => node_get (hm.gr.keep0 k') _
  have HH := Lib.hid (And.intro hF (And.intro hG (And.intro hnd (And.intro h6 (And.intro kk (And.intro bm (And.intro bE bR)))))))
  unfold maxLen at hc2
  have hS0 := And.intro (cells6 bm).1 (And.intro (cells3 bE.drew) hr0)
  clear hF hG hnd kk bm bE bR hm hv hS hrow hcell hSv hr0 h6
  generalize l.getD k 0 = xi at *
  generalize l.length = L at *
  go_enter Try.func87, Try.ntmps87
  go_upto_region 1 with fail
  refine wp_region_X (fun w' => w'.cell? ⟨m, 3, none⟩ = some (.pointer (some ⟨g, 0, none⟩)) ∧ (w'.cell? ⟨w.heap.size, 0, none⟩ = some (.int .i64 kd) ∧ w'.cell? ⟨w.heap.size, 1, none⟩ = some (.int .i64 n) ∧ w'.cell? ⟨w.heap.size, 2, none⟩ = some (.slice (some ⟨gv, off, none⟩) L vc)) ∧ w'.cell? ⟨gv, off + k, none⟩ = some (.int .i64 xi)) [9, 10] (by kernel_rfl) ?_
  refine wpAnyX_take [0, 1, 2, 3, 4, 5, 6, 7, 8] 2 (by kernel_rfl) (fun _ _ d _ _ h => by cases d <;> exact h) (by kernel_rfl) (by simp only [List.map_cons, List.map_nil, List.getElem?_toArray, List.getElem?_cons_zero, List.getElem?_cons_succ]; rfl) hS0 ?_
  repeat (refine SegThen.step (v := ?_) (by rfl) (fun w' hSw => ?_) ?_; rotate_left 1; (focus ((try dsimp only at hSw); go_simp; (try with_reducible rfl))); simp only [Act.put, List.setIfInBounds_toArray, List.set_cons_zero, List.set_cons_succ])
  refine SegThen.nil ?_
  refine wpAnyX_tail [9, 10] _ (by kernel_rfl) (by simp only [List.map_cons, List.map_nil, List.getElem?_toArray, List.getElem?_cons_zero, List.getElem?_cons_succ]; rfl) rfl ?_
  dsimp only [List.filterMap, id]
  clear hS0
  go_wp2_with fail
  refine (HH.out.1 _ HH.out.2.2.2.2.1).mono ?_
  rintro e w1 ⟨rfl, hk1⟩
  have bm1 := (HH.out.2.2.2.2.2.1).keep hk1 (by simp)
  have y3 := bm1.cell 3
  have H1 := Lib.hid (And.intro hk1 bm1)
  clear hk1 bm1
  go_wp2_with fail
  refine (HH.out.2.1 _ (HH.out.2.2.2.2.1.trans0 H1.out.1)).mono ?_
  rintro e w2 ⟨v2, rfl, ho2, hk2⟩
  rw [HH.out.2.2.1]
  obtain ⟨_, _, hnd, h6, kk, bm, bE, bR⟩ := HH.out
  have ek : (nd0 (some nd)).kind = 6 := h6
  have en : (nd0 (some nd)).n = nd.n := rfl
  rw [hnd] at ho2
  obtain ⟨va, vac, rfl, _⟩ := ownsRow_zero ho2
  rw [ek, en]
  have bE2 := (bE.drew.keep H1.out.1 (by simp)).keep hk2 (by simp)
  have bR2 := (bR.drew.keep H1.out.1 (by simp)).keep hk2 (by simp)
  have kw2 := (kk.trans0 H1.out.1).trans0 hk2
  obtain ⟨x0, x1, x2⟩ := cells3 bE2
  obtain ⟨r0, r1, r2⟩ := cells3 bR2
  have f0 := bR2.frozen 0
  have f1 := bR2.frozen 1
  have f2 := bR2.frozen 2
  have hsz := bR2.lt
  have H2 := Lib.hid kw2
  clear kk bm bE bR hnd h6 bE2 bR2 kw2 ho2 hk2 ek en
  generalize (nd0 (some nd)).args.length = L2 at *
  generalize nd.n = nn at *
  have H3 : Hid (∀ n w, Calls Try.prog 103 #[.int .i64 n] w (PBool w (lazyB n))) := Lib.hid node_lazy
  have hl6 : lazyB 6 = false := by decide
  go_wp2_with (go_at_call 103; refine (H3.out _ _).mono ?_; rintro e w' ⟨rfl, rfl⟩)
  refine bodyPost_ret (v := .tuple #[.agg #[.int .i64 6, .int .i64 nn, .slice va L2 vac], .int .i64 0, .int .i64 0]) (by simp [results, Try.results87, go_sem, *]) rfl ?_
  exact ⟨va, L2, vac, rfl, (((H2.out.setCell (p := ⟨w.heap.size + 1, 0, none⟩) (.inr (Nat.le_succ _)) _).setCell (p := ⟨w.heap.size + 1, 1, none⟩) (.inr (Nat.le_succ _)) _).setCell (p := ⟨w.heap.size + 1, 2, none⟩) (.inr (Nat.le_succ _)) _).alloc _⟩

theorem doP_small (op a b : Int) : -2147483647 ≤ (doP op a b).1 ∧ (doP op a b).1 ≤ 2147483647 := by
  have hb : ∀ n, -2147483647 ≤ (bndP n).1 ∧ (bndP n).1 ≤ 2147483647 := by
    intro n
    unfold bndP
    split
    · rename_i h; exact fitsB_iff h
    · decide
  have ho : ∀ c, -2147483647 ≤ oneP c ∧ oneP c ≤ 2147483647 := by intro c; cases c <;> decide
  unfold doP
  split
  · decide
  · split
    · exact hb _
    · split
      · exact hb _
      · split
        · exact hb _
        · split
          · exact ho _
          · exact ho _

/-- What 'op' tells, and its graph. -/
def opR (G : List (Option Nd)) (i op a b : Int) : Int × List (Option Nd) :=
  if (doP op a b).2 = 7 then (6, G) else if (doP op a b).2 = 0 then (if testB op = true then (4, gset G i (some ⟨1, 1 - (doP op a b).1, []⟩)) else (4, gset G i (some ⟨6, (doP op a b).1, []⟩))) else (5, G)
def OpPost (w : World) (m g : Nat) (F : List Nat) (E : Nat → Prop) (most : Nat) (p0 p1 p2 : Value) (id steps : Int) (r : Int × List (Option Nd)) (e : Ending) (w' : World) : Prop :=
  e = .returned (.tuple #[.int .i64 r.1, .int .i64 0]) ∧ MachAt w' m g F E r.2 most p0 p1 p2 id steps ∧ Keeps F w w'

theorem MachAt.keep0 {w w' : World} {m g : Nat} {F : List Nat} {E : Nat → Prop} {most : Nat} {G : List (Option Nd)} {p0 p1 p2 : Value} {idn steps : Int} (h : MachAt w m g F E G most p0 p1 p2 idn steps) (k : Keeps [] w w') : MachAt w' m g F E G most p0 p1 p2 idn steps :=
  ⟨h.blk.keep k (by simp), h.gr.keep0 k, h.notF⟩

/-- The two operands, k of them read. -/
def arr2 (a b : Int) (k : Nat) : Array Value := #[.int .i64 (if 0 < k then a else 0), .int .i64 (if 1 < k then b else 0)]
structure OpLoop (w : World) (op : Int) (sv : Value) (a b : Int) (k : Nat) (wr : World) : Prop where
  kp : Keeps [] w wr
  n : Blk wr w.heap.size #[.int .i64 10, .int .i64 op, sv] 35
  v : Blk wr (w.heap.size + 1) (arr2 a b k) 141

set_option maxHeartbeats 2000000 in
set_option maxRecDepth 100000 in
theorem step_op {S : Nat → Prop} {w : World} {m g : Nat} {F : List Nat} {E : Nat → Prop} {most : Nat} {G : List (Option Nd)} {p0 p1 p2 : Value} {idn steps : Int} (hm : MachAt w m g F E G most p0 p1 p2 idn steps) (hE : ∀ x, E x → x < w.heap.size) (i : Int) {op : Int} {v : Value} {x y a b : Int} (hv : RowAt S w 1 v [x, y].length (ints [x, y])) (hS : ∀ b, S b → b < w.heap.size)
    (nx ny : Nd) (hx : gget G (follow G x) = some nx) (hx6 : nx.kind = 6) (hxn : nx.n = a) (hy : gget G (follow G y) = some ny) (hy6 : ny.kind = 6) (hyn : ny.n = b) :
    Calls Try.prog 61 #[.pointer (some ⟨m, 0, none⟩), .int .i64 i, .agg #[.int .i64 10, .int .i64 op, v]] w (OpPost w m g F E most p0 p1 p2 idn steps (opR G i op a b)) := by
  obtain ⟨vb, vc, rfl, hc1, hc2⟩ := hv.form
  subst hxn hyn
  have hA0 : ∀ w', Keeps [] w w' → Calls Try.prog 87 #[.pointer (some ⟨m, 0, none⟩), .int .i64 i, .agg #[.int .i64 10, .int .i64 op, .slice vb 2 vc], .int .i64 0] w' (ArgPost w' nx.n) := fun w' k => step_arg (hm.keep0 k) i (hv.keep (k.fix (fun b hb => ⟨hS b hb, by simp⟩))) (fun b hb => Nat.lt_of_lt_of_le (hS b hb) k.size) 0 (by simp) nx hx hx6
  have hA1 : ∀ w', Keeps [] w w' → Calls Try.prog 87 #[.pointer (some ⟨m, 0, none⟩), .int .i64 i, .agg #[.int .i64 10, .int .i64 op, .slice vb 2 vc], .int .i64 1] w' (ArgPost w' ny.n) := fun w' k => step_arg (hm.keep0 k) i (hv.keep (k.fix (fun b hb => ⟨hS b hb, by simp⟩))) (fun b hb => Nat.lt_of_lt_of_le (hS b hb) k.size) 1 (by simp) ny hy hy6
  have hB : ∀ w', Keeps [] w w' → ∀ k n, Calls Try.prog 88 #[.pointer (some ⟨m, 0, none⟩), .int .i64 i, .agg #[.int .i64 k, .int .i64 n, .slice none 0 0]] w' (SetPost' w' m g F E most p0 p1 p2 idn steps G i ⟨k, n, []⟩) := fun w' kp k n => step_become (S := fun _ => False) (l := []) (hm.keep0 kp) (fun x hx => Nat.lt_of_lt_of_le (hE x hx) kp.size) i (RowAt.nil _ _ _) (fun b hb => hb.elim) (by decide)
  have H1 := Lib.hid (And.intro hA0 (And.intro hA1 (And.intro hB hm)))
  have HD := Lib.hid (prim_do op nx.n ny.n)
  have HT : Hid (∀ n w, Calls Try.prog 90 #[.int .i64 n] w (PBool w (testB n))) := Lib.hid prim_test
  have hds := doP_small op nx.n ny.n
  obtain ⟨hd1, hd2⟩ := hds
  simp only [List.length_cons, List.length_nil] at hc1
  clear hA0 hA1 hB hm hv hS hx hx6 hy hy6 hE
  generalize hopr : opR G i op nx.n ny.n = R at *
  unfold opR at hopr
  have HOP := Lib.hid hopr
  clear hopr
  generalize nx.n = a at *
  generalize ny.n = b at *
  unfold maxLen at hc2
  go_enter Try.func61, Try.ntmps61
  go_wp2_with fail
  go_loopg [19] 2 (fun q s19 wr => ∃ k : Nat, k ≤ 2 ∧ q = 2 - k ∧ s19 = .int .i64 (k : Nat) ∧ OpLoop w op (.slice vb 2 vc) a b k wr)
  case atStart => exact ⟨0, by omega, rfl, rfl, ⟨((Keeps.refl _ _).alloc _).alloc _, (Blk.new _ _ _).alloc _, by simpa [arr2] using Blk.new (w.alloc (.cells #[.int .i64 10, .int .i64 op, .slice vb 2 vc] 35)) (arr2 a b 0) 141⟩⟩
  case round =>
    obtain ⟨k, hk, rfl, rfl, hL⟩ := hrel
    have hk3 : k = 0 ∨ k = 1 ∨ k = 2 := by omega
    obtain ⟨n0, n1, n2⟩ := cells3 hL.n
    rcases hk3 with rfl | rfl | rfl
    · have v0 := hL.v.cell 0
      have hblt := hL.v.lt
      have HL := Lib.hid hL
      clear hL v0
      go_upto_region 8 with (go_at_call 87; refine (H1.out.1 _ HL.out.kp).mono ?_; rintro e w1 ⟨a1, l1, c1, rfl, hk1⟩; have hb1 := HL.out.v.keep hk1 (by simp); have f0 := hb1.frozen 0; have v0 := hb1.cell 0; have H2 := Lib.hid (And.intro hk1 hb1); have hlt1 := hb1.lt; clear hk1 hb1)
      go_wp2
      go_roundg (2 - 1)
      case measure => decide
      case rel =>
        obtain ⟨hk1, hb1⟩ := H2.out
        have hL := HL.out
        refine ⟨1, by omega, rfl, by go_num, ?_, ?_, ?_⟩
        · first
            | exact (((hL.kp.trans0 hk1).setCell (p := ⟨w.heap.size + 1, 0, none⟩) (.inr (Nat.le_succ _)) _).alloc _)
            | exact (((hL.kp.trans0 hk1).alloc _).setCell (p := ⟨w.heap.size + 1, 0, none⟩) (.inr (Nat.le_succ _)) _)
        · first
            | exact (((hL.n.keep hk1 (by simp)).setOther (p := ⟨w.heap.size + 1, 0, none⟩) (by simp) _).alloc _)
            | exact (((hL.n.keep hk1 (by simp)).alloc _).setOther (p := ⟨w.heap.size + 1, 0, none⟩) (by simp) _)
        · first
            | (simpa [arr2] using (hb1.setCell 0 (.int .i64 a)).alloc (.cells #[.int .i64 6, .int .i64 a, .slice a1 l1 c1] 35); done)
            | (simpa [arr2] using (hb1.alloc (.cells #[.int .i64 6, .int .i64 a, .slice a1 l1 c1] 35)).setCell 0 (.int .i64 a))
    · have v0 := hL.v.cell 1
      have hblt := hL.v.lt
      have HL := Lib.hid hL
      clear hL v0
      go_upto_region 8 with (go_at_call 87; refine (H1.out.2.1 _ HL.out.kp).mono ?_; rintro e w1 ⟨a1, l1, c1, rfl, hk1⟩; have hb1 := HL.out.v.keep hk1 (by simp); have f0 := hb1.frozen 1; have v0 := hb1.cell 1; have H2 := Lib.hid (And.intro hk1 hb1); have hlt1 := hb1.lt; clear hk1 hb1)
      go_wp2
      go_roundg (2 - 2)
      case measure => decide
      case rel =>
        obtain ⟨hk1, hb1⟩ := H2.out
        have hL := HL.out
        refine ⟨2, by omega, rfl, by go_num, ?_, ?_, ?_⟩
        · first
            | exact (((hL.kp.trans0 hk1).setCell (p := ⟨w.heap.size + 1, 1, none⟩) (.inr (Nat.le_succ _)) _).alloc _)
            | exact (((hL.kp.trans0 hk1).alloc _).setCell (p := ⟨w.heap.size + 1, 1, none⟩) (.inr (Nat.le_succ _)) _)
        · first
            | exact (((hL.n.keep hk1 (by simp)).setOther (p := ⟨w.heap.size + 1, 1, none⟩) (by simp) _).alloc _)
            | exact (((hL.n.keep hk1 (by simp)).alloc _).setOther (p := ⟨w.heap.size + 1, 1, none⟩) (by simp) _)
        · first
            | (simpa [arr2] using (hb1.setCell 1 (.int .i64 b)).alloc (.cells #[.int .i64 6, .int .i64 b, .slice a1 l1 c1] 35); done)
            | (simpa [arr2] using (hb1.alloc (.cells #[.int .i64 6, .int .i64 b, .slice a1 l1 c1] 35)).setCell 1 (.int .i64 b))
    · have v0 := hL.v.cell 0
      have v1 := hL.v.cell 1
      simp only [arr2, List.getElem?_toArray, List.getElem?_cons_zero, List.getElem?_cons_succ, Nat.zero_lt_succ, if_true, Nat.one_lt_two] at v0 v1
      have HL := Lib.hid hL
      clear hL
      have hcase : (doP op a b).2 = 7 ∨ (((doP op a b).2 == 7) = false ∧ (doP op a b).2 = 0 ∧ testB op = true) ∨ (((doP op a b).2 == 7) = false ∧ (doP op a b).2 = 0 ∧ testB op = false) ∨ (((doP op a b).2 == 7) = false ∧ ((doP op a b).2 == 0) = false) := by
        by_cases h1 : (doP op a b).2 = 7
        · exact .inl h1
        · by_cases h2 : (doP op a b).2 = 0
          · cases ht : testB op
            · exact .inr (.inr (.inl ⟨by simp [h1], h2, rfl⟩))
            · exact .inr (.inl ⟨by simp [h1], h2, rfl⟩)
          · exact .inr (.inr (.inr ⟨by simp [h1], by simp [h2]⟩))
      generalize doP op a b = D at *
      obtain ⟨d1, d2⟩ := D
      simp only at hcase hd1 hd2
      rcases hcase with rfl | ⟨q1, rfl, q3⟩ | ⟨q1, rfl, q3⟩ | ⟨q1, q2⟩
      all_goals
        go_wp2_with (first | (go_at_call 89; refine (HD.out _).mono ?_; rintro e w' ⟨rfl, rfl⟩) | (go_at_call 90; refine (HT.out _ _).mono ?_; rintro e w' ⟨rfl, rfl⟩) | (go_at_call 88; refine (H1.out.2.2.1 _ HL.out.kp _ _).mono ?_; rintro e w1 ⟨rfl, hm1, hk1⟩; have H2 := Lib.hid (And.intro hm1 hk1); clear hm1 hk1))
        go_ret2
        have hR := HOP.out
        first
          | (rw [if_pos trivial] at hR; subst hR; exact ⟨rfl, H1.out.2.2.2.keep0 HL.out.kp, HL.out.kp.of0⟩)
          | (rw [if_neg (by decide), if_pos trivial, if_pos q3] at hR; subst hR; exact ⟨rfl, H2.out.1, (HL.out.kp.of0).trans H2.out.2 (fun x hx => .inl hx)⟩)
          | (rw [if_neg (by decide), if_pos trivial, if_neg (by rw [q3]; decide)] at hR; subst hR; exact ⟨rfl, H2.out.1, (HL.out.kp.of0).trans H2.out.2 (fun x hx => .inl hx)⟩)
          | (rw [if_neg (by simpa using q1), if_neg (by simpa using q2)] at hR; subst hR; exact ⟨rfl, H1.out.2.2.2.keep0 HL.out.kp, HL.out.kp.of0⟩)

end Go.Proofs.Ytokbjopmfcggdaa
