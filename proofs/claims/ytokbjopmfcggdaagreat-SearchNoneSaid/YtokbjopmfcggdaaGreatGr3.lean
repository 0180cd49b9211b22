/- node's Free, Follow, At, Reach. -/
import Derived.Test.YtokbjopmfcggdaaGreatGr2
namespace Go.Proofs.YtokbjopmfcggdaaGreat
open Go.RowKit
set_option linter.unusedVariables false
set_option linter.unusedSimpArgs false
set_option linter.unnecessarySimpa false

theorem count_set_false {u : List Bool} {m : Nat} (h : u.getD m false = true) : (u.set m false).count true + 1 = u.count true := by
  induction u generalizing m with
  | nil => simp at h
  | cons a u ih =>
    cases m with
    | zero => simp at h; subst h; simp
    | succ m =>
      have := ih (m := m) (by simpa using h)
      simp only [List.set_cons_succ, List.count_cons]; omega

/-! ### Follow -/
def ndInd (nd : Nd) : Option Int := if nd.kind = 5 then (match nd.args with | [j] => some j | _ => none) else none
def isInd (o : Option Nd) : Option Int := ndInd (nd0 o)
def followN (G : List (Option Nd)) : Nat → Int → Int
  | 0, i => i
  | k + 1, i => match isInd (gget G i) with | some j => followN G k j | none => i
def follow (G : List (Option Nd)) (i : Int) : Int := followN G (cnt G) i
def FollowPost (w : World) (G : List (Option Nd)) (i : Int) (e : Ending) (w' : World) : Prop := e = .returned (.int .i64 (follow G i)) ∧ Keeps [] w w'

theorem own_first {w : World} {a : Option Addr} {c : Nat} {j : Int} (h : w.ownsRow 0 3 1 (.slice a [j].length c) [j].length (ints [j])) : ∃ g, a = some ⟨g, 0, none⟩ ∧ w.cell? ⟨g, 0, none⟩ = some (.int .i64 j) := by
  obtain ⟨g, cap, hv, _, _, hc⟩ := ownsRow_cells h (by simp)
  injection hv with hv
  exact ⟨g, hv, hc 0 _ rfl⟩
theorem follow_ret {a b : Int} (h : a = b) : Ending.returned (.int .i64 a) = .returned (.int .i64 b) := by rw [h]
theorem node_follow {w : World} {g : Nat} {F : List Nat} {E : Nat → Prop} {G : List (Option Nd)} {most : Nat} (h : GrAt w g F E G most) (i : Int) :
    Calls Tryz.prog 66 #[.pointer (some ⟨g, 0, none⟩), .int .i64 i] w (FollowPost w G i) := by
  have hcnt := h.cntLe
  have hlen := node_len h
  have HL := Lib.hid hlen
  clear hlen
  go_enter Tryz.func66, Tryz.ntmps66
  go_wp2_with (go_at_call 41; refine HL.out.mono ?_; rintro e w' ⟨rfl, rfl⟩)
  go_loopg [1, 9] (cnt G) (fun c s1 s9 wr => ∃ j : Int, ∃ d : Nat, s1 = .int .i64 j ∧ s9 = .int .i64 (d : Nat) ∧ d ≤ cnt G ∧ c = cnt G - d ∧ followN G (cnt G - d) j = follow G i ∧ Keeps [] w wr)
  case atStart => exact ⟨i, 0, rfl, rfl, Nat.zero_le _, rfl, rfl, Keeps.refl _ _⟩
  case round =>
    obtain ⟨j, d, rfl, rfl, hd, rfl, hf, hK⟩ := hrel
    obtain ⟨b, vl, vu, A, hi, rfl⟩ := h.keep0 hK
    have HF := Lib.hid hf
    have HK := Lib.hid hK
    clear hf hK h
    obtain ⟨hcl, hmo, _⟩ := hcnt
    generalize hc : cnt G = C at *
    have HC := Lib.hid hc
    clear hc
    by_cases hlt : d < C
    · obtain ⟨hb, v, hget, ho, hfew⟩ := hi.getA j
      obtain ⟨va, vc, rfl, hvc⟩ := ownsRow_zero ho
      have HG := Lib.hid (And.intro hb hget)
      have HO := Lib.hid ho
      have hstep : Hid (∀ x, isInd (gget G j) = x → followN G (C - d) j = match x with | some j' => followN G (C - (d + 1)) j' | none => j) := by
        intro x hx
        obtain ⟨q, hq⟩ : ∃ q, C - d = q + 1 := ⟨C - d - 1, by omega⟩
        rw [hq, show C - (d + 1) = q by omega]
        simp only [followN, hx]
      clear hb hget ho
      unfold isInd at hstep
      generalize gget G j = r at *
      generalize nd0 r = nd at *
      obtain ⟨kd, nn, al⟩ := nd
      have hkind : (kd = 5 ∧ al.length = 1) ∨ (kd = 5 ∧ al.length ≠ 1) ∨ kd ≠ 5 := by omega
      rcases hkind with ⟨rfl, hl1⟩ | ⟨rfl, hl1⟩ | hk5
      · obtain ⟨j', rfl⟩ : ∃ j', al = [j'] := by
          match al, hl1 with
          | [j'], _ => exact ⟨j', rfl⟩
        have HI := Lib.hid hi
        clear hi
        go_wp2_with fail
        refine (graph_places HI.out.blk).mono ?_
        rintro e w' ⟨rfl, rfl⟩
        go_wp2_with fail
        refine (arena_get HI.out.ar HI.out.ok j).mono ?_
        rintro e w1 ⟨rfl, hk1⟩
        rw [HG.out.2]
        obtain ⟨gv, rfl, hc0⟩ := own_first (ownsRow_keep HO.out hk1 (by simp))
        have sv := World.block_lt_of_cell? w1 _ hc0
        simp only at sv
        have HK1 := Lib.hid hk1
        clear hk1
        go_wp2_with fail
        go_roundg (C - (d + 1))
        case measure => omega
        case rel =>
          refine ⟨j', d + 1, rfl, by go_num, by omega, by omega, ?_, (HK.out.trans0 HK1.out).alloc _⟩
          rw [← HF.out, hstep.out (some j') rfl]
      · have HI := Lib.hid hi
        clear hi
        have hd1 : ((al.length : Int) == 1) = false := by simp; omega
        go_wp2_with fail
        refine (graph_places HI.out.blk).mono ?_
        rintro e w' ⟨rfl, rfl⟩
        go_wp2_with fail
        refine (arena_get HI.out.ar HI.out.ok j).mono ?_
        rintro e w1 ⟨rfl, hk1⟩
        rw [HG.out.2]
        have HK1 := Lib.hid hk1
        clear hk1
        go_wp2_with fail
        go_ret
        exact ⟨follow_ret (by rw [← HF.out, hstep.out none (by simp only [ndInd, if_true]; match al, hl1 with | [], _ => rfl | [a], h => simp at h | a :: b :: c, _ => rfl)]), (HK.out.trans0 HK1.out).alloc _⟩
      · have HI := Lib.hid hi
        clear hi
        have hd1 : (kd == 5) = false := by simp; omega
        go_wp2_with fail
        refine (graph_places HI.out.blk).mono ?_
        rintro e w' ⟨rfl, rfl⟩
        go_wp2_with fail
        refine (arena_get HI.out.ar HI.out.ok j).mono ?_
        rintro e w1 ⟨rfl, hk1⟩
        rw [HG.out.2]
        have HK1 := Lib.hid hk1
        clear hk1
        go_wp2_with fail
        go_ret
        exact ⟨follow_ret (by rw [← HF.out, hstep.out none (by simp [ndInd, hk5])]), (HK.out.trans0 HK1.out).alloc _⟩
    · obtain rfl : d = C := by omega
      go_wp2_with fail
      go_ret
      exact ⟨follow_ret (by rw [← HF.out]; simp [followN]), HK.out⟩

/-! ### At -/
theorem node_at {w : World} {g : Nat} {F : List Nat} {E : Nat → Prop} {G : List (Option Nd)} {most : Nat} (h : GrAt w g F E G most) (i : Int) :
    Calls Tryz.prog 126 #[.pointer (some ⟨g, 0, none⟩), .int .i64 i] w (GGetPost w G (follow G i)) := by
  go_enter Tryz.func126, Tryz.ntmps126
  go_wp2_with fail
  refine (node_follow (h.keep0 ((Keeps.refl [] w).alloc _)) i).mono ?_
  rintro e w1 ⟨rfl, hk1⟩
  have b1 := (Blk.new w #[.int .i64 0, .int .i64 0, .slice none 0 0] 79).keep hk1 (by simp)
  have hk1' : Keeps [] w w1 := ((Keeps.refl [] w).alloc _).trans0 hk1
  have hg := h.keep0 hk1'
  have H1 := Lib.hid (And.intro b1 hk1')
  clear b1 hk1 hk1' h
  go_wp2_with fail
  refine (node_get hg (follow G i)).mono ?_
  rintro e w2 ⟨v, rfl, ho, hk2⟩
  obtain ⟨b1, hk1⟩ := H1.out
  have b2 := b1.keep hk2 (by simp)
  obtain ⟨va, vc, rfl, _⟩ := ownsRow_zero ho
  generalize hnd : nd0 (gget G (follow G i)) = nd at *
  have d0 := b2.cell 0
  have d1 := b2.cell 1
  have d2 := b2.cell 2
  have e0 := b2.frozen 0
  have e1 := b2.frozen 1
  have e2 := b2.frozen 2
  have hs := hk1.size
  have hlt := b1.lt
  have H2 := Lib.hid (And.intro hnd (And.intro ho (And.intro (hk1.trans0 hk2) (And.intro hlt hs))))
  clear b1 hk1 b2 ho hk2 hnd H1 hg hs
  go_wp2
  refine bodyPost_ret (v := .tuple #[.agg #[.int .i64 nd.kind, .int .i64 nd.n, .slice va nd.args.length vc], .bool (gget G (follow G i)).isSome]) (by simp [results, Tryz.results126, go_sem, *]) rfl ?_
  obtain ⟨hnd, ho, hk, hlt, hs⟩ := H2.out
  have nb : (Value.slice va nd.args.length vc).ownBlock ≠ some w.heap.size := fun hh => by have := (ho.lt _ hh).1; omega
  unfold GGetPost
  rw [hnd]
  refine ⟨_, rfl, ?_, ?_⟩
  · exact ownsRow_le (ownsRow_setOther (p := ⟨_, _, none⟩) (ownsRow_setOther (p := ⟨_, _, none⟩) (ownsRow_setOther (p := ⟨_, _, none⟩) ho nb _) nb _) nb _) hs
  · exact ((hk.setCell (p := ⟨_, _, none⟩) (.inr (Nat.le_refl _)) _).setCell (p := ⟨_, _, none⟩) (.inr (Nat.le_refl _)) _).setCell (p := ⟨_, _, none⟩) (.inr (Nat.le_refl _)) _

end Go.Proofs.YtokbjopmfcggdaaGreat
