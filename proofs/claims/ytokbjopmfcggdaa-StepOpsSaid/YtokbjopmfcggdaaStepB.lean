/- step: at and Step at an operator on numbers. -/
import Derived.Test.YtokbjopmfcggdaaStepA
import Derived.WalkMore
namespace Go.Proofs.Ytokbjopmfcggdaa
open Go.RowKit
set_option linter.unusedVariables false
set_option linter.unusedSimpArgs false
set_option linter.unnecessarySimpa false

set_option maxHeartbeats 2000000 in
set_option maxRecDepth 100000 in
theorem step_at {w : World} {m g : Nat} {F : List Nat} {E : Nat → Prop} {most : Nat} {G : List (Option Nd)} {p0 p1 p2 : Value} {idn steps : Int} (hm : MachAt w m g F E G most p0 p1 p2 idn steps) (hE : ∀ x, E x → x < w.heap.size) (i : Int) {op x y a b : Int} (hg : gget G i = some ⟨10, op, [x, y]⟩)
    (nx ny : Nd) (hx : gget G (follow G x) = some nx) (hx6 : nx.kind = 6) (hxn : nx.n = a) (hy : gget G (follow G y) = some ny) (hy6 : ny.kind = 6) (hyn : ny.n = b) :
    Calls Try.prog 39 #[.pointer (some ⟨m, 0, none⟩), .int .i64 i] w (OpPost w m g F E most p0 p1 p2 idn steps (opR G i op a b)) := by
  have y3 := hm.blk.cell 3
  have hG := node_get hm.gr i
  have HH := Lib.hid (And.intro hm (And.intro hE (And.intro hG hg)))
  clear hm hE hG hg
  go_enter Try.func39, Try.ntmps39
  go_wp2_with fail
  refine HH.out.2.2.1.mono ?_
  rintro e w1 ⟨v', rfl, ho, hk⟩
  rw [HH.out.2.2.2] at ho ⊢
  have ho2 : w1.ownsRow w.heap.size 3 1 v' [x, y].length (ints [x, y]) := ho
  have e0 : nd0 (some ⟨10, op, [x, y]⟩) = ⟨10, op, [x, y]⟩ := rfl
  rw [e0]
  obtain ⟨va, vac, rfl, _⟩ := ownsRow_zero ho2
  have H1 := Lib.hid (And.intro ho2 hk)
  clear ho ho2 hk e0
  go_wp2_with fail
  have kw : Keeps [] w (w1.alloc (.cells #[.int .i64 10, .int .i64 op, .slice va [x, y].length vac] 35)) := H1.out.2.alloc _
  refine (step_op (HH.out.1.keep0 kw) (fun z hz => Nat.lt_of_lt_of_le (HH.out.2.1 z hz) kw.size) i (RowAt.of_owns (H1.out.1.alloc _)) (fun b hb => ((H1.out.1.alloc _).lt b hb).2) nx ny hx hx6 hxn hy hy6 hyn).mono ?_
  rintro e w2 ⟨rfl, hm2, hk2⟩
  have H2 := Lib.hid (And.intro hm2 (kw.of0.trans hk2 (fun x hx => .inl hx)))
  clear hm2 hk2 kw hx hx6 hxn hy hy6 hyn
  generalize opR G i op a b = R at *
  go_wp2
  go_ret2
  exact ⟨rfl, H2.out.1, H2.out.2⟩

def StepPost (w : World) (m g : Nat) (F : List Nat) (E : Nat → Prop) (most : Nat) (p0 p1 p2 : Value) (id steps : Int) (r : Int × List (Option Nd)) (e : Ending) (w' : World) : Prop :=
  e = .returned (.int .i64 r.1) ∧ MachAt w' m g F E r.2 most p0 p1 p2 id (if r.1 = 4 then steps + 1 else steps) ∧ Keeps (m :: F) w w'

theorem opR_cases (G : List (Option Nd)) (i op a b : Int) : (opR G i op a b).1 = 4 ∨ (opR G i op a b).1 = 5 ∨ (opR G i op a b).1 = 6 := by
  unfold opR; (repeat' split) <;> simp

set_option maxHeartbeats 2000000 in
set_option maxRecDepth 100000 in
theorem step_Step {w : World} {m g : Nat} {F : List Nat} {E : Nat → Prop} {most : Nat} {G : List (Option Nd)} {p0 p1 p2 : Value} {idn steps : Int} (hm : MachAt w m g F E G most p0 p1 p2 idn steps) (hE : ∀ x, E x → x < w.heap.size) (hs0 : 0 ≤ steps) (hs1 : steps ≤ 1000000000) (i : Int) {op x y a b : Int} (hg : gget G (follow G i) = some ⟨10, op, [x, y]⟩)
    (nx ny : Nd) (hx : gget G (follow G x) = some nx) (hx6 : nx.kind = 6) (hxn : nx.n = a) (hy : gget G (follow G y) = some ny) (hy6 : ny.kind = 6) (hyn : ny.n = b) :
    Calls Try.prog 20 #[.pointer (some ⟨m, 0, none⟩), .int .i64 i] w (StepPost w m g F E most p0 p1 p2 idn steps (opR G (follow G i) op a b)) := by
  have y3 := hm.blk.cell 3
  have hL := node_len hm.gr
  have hF : Calls Try.prog 40 #[.pointer (some ⟨g, 0, none⟩), .int .i64 i] w (fun e w' => e = .returned (.int .i64 (follow G i)) ∧ Keeps [] w w') := node_follow hm.gr i
  have hA := fun w' (k : Keeps [] w w') => step_at (hm.keep0 k) (fun z hz => Nat.lt_of_lt_of_le (hE z hz) k.size) (follow G i) hg nx ny hx hx6 hxn hy hy6 hyn
  have hcl := hm.gr.cntLe
  have hr := opR_cases G (follow G i) op a b
  have HH := Lib.hid (And.intro hm (And.intro hL (And.intro hF hA)))
  obtain ⟨hc1, hc2, _⟩ := hcl
  clear hm hL hF hA hx hx6 hxn hy hy6 hyn hg hE
  generalize follow G i = j at *
  generalize opR G j op a b = R at *
  obtain ⟨r, G2⟩ := R
  simp only at hr
  generalize cnt G = cn at *
  go_enter Try.func20, Try.ntmps20
  go_wp2_with fail
  go_step3
  go_wp2_with (go_at_call 38; refine HH.out.2.1.mono ?_; rintro e w' ⟨rfl, rfl⟩)
  go_step3
  go_wp2_with fail
  refine HH.out.2.2.1.mono ?_
  rintro e w1 ⟨rfl, hk1⟩
  have HK1 := Lib.hid hk1
  clear hk1
  go_wp2_with fail
  refine (HH.out.2.2.2 _ HK1.out).mono ?_
  rintro e w2 ⟨rfl, hm2, hk2⟩
  have y5 := hm2.blk.cell 5
  have f5 := hm2.blk.frozen 5
  have H2 := Lib.hid (And.intro hm2 hk2)
  clear hm2 hk2
  rcases hr with rfl | rfl | rfl
  all_goals
    go_wp2
    (try rw [Exit.noGoto_ret])
    go_ret
    obtain ⟨hm2, hk2⟩ := H2.out
    have kk : Keeps (m :: F) w w2 := (HK1.out.of0).trans hk2 (fun x hx => .inl (by simp [hx]))
    first
      | exact ⟨rfl, ⟨hm2.blk, hm2.gr, hm2.notF⟩, kk⟩
      | exact ⟨rfl, ⟨hm2.blk.setCell 5 _, hm2.gr.setM hm2.blk hm2.notF _, hm2.notF⟩, kk.setCell (p := ⟨m, 5, none⟩) (.inl (by simp)) _⟩

end Go.Proofs.Ytokbjopmfcggdaa
