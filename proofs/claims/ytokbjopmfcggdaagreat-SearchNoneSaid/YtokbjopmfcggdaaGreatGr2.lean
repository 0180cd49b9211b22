/- node's Get, Set, Free, Follow, At, Reach. -/
import Derived.Test.YtokbjopmfcggdaaGreatGr
namespace Go.Proofs.YtokbjopmfcggdaaGreat
open Go.RowKit
set_option linter.unusedVariables false
set_option linter.unusedSimpArgs false
set_option linter.unnecessarySimpa false

def nd0 (o : Option Nd) : Nd := o.getD ⟨0, 0, []⟩
def GGetPost (w : World) (G : List (Option Nd)) (i : Int) (e : Ending) (w' : World) : Prop :=
  ∃ v, e = .returned (.tuple #[.agg #[.int .i64 (nd0 (gget G i)).kind, .int .i64 (nd0 (gget G i)).n, v], .bool (gget G i).isSome]) ∧
    w'.ownsRow w.heap.size 3 1 v (nd0 (gget G i)).args.length (ints (nd0 (gget G i)).args) ∧ Keeps [] w w'

/-- What arena.Get gives, in the graph's words. -/
theorem GrIn.getA {w : World} {g b : Nat} {vl vu : Value} {A : Ar} {E : Nat → Prop} {G : List (Option Nd)} {most : Nat} (h : GrIn w g b vl vu A E G most) (i : Int) :
    hasB A.u i = (gget G i).isSome ∧ ∃ v, Go.Proofs.YtokbjopmfcggdaaGreat.getA A i = ((nd0 (gget G i)).kind, (nd0 (gget G i)).n, v) ∧ w.ownsRow 0 3 1 v (nd0 (gget G i)).args.length (ints (nd0 (gget G i)).args) ∧ (nd0 (gget G i)).args.length ≤ 1000000 := by
  have hb : hasB A.u i = (gget G i).isSome := by rw [h.u]; exact hasB_gget G i
  refine ⟨hb, ?_⟩
  unfold Go.Proofs.YtokbjopmfcggdaaGreat.getA
  by_cases hh : hasB A.u i = true
  · rw [if_pos hh]
    rw [hb] at hh
    obtain ⟨nd, hnd⟩ := Option.isSome_iff_exists.1 hh
    have h0 : 0 ≤ i := by
      rcases Int.lt_or_le i 0 with h0 | h0
      · unfold gget at hnd; rw [if_neg (by omega)] at hnd; cases hnd
      · exact h0
    have hG : G[i.toNat]? = some (some nd) := by
      unfold gget at hnd; rw [if_pos h0] at hnd
      cases hg : G[i.toNat]? with
      | none => rw [hg] at hnd; cases hnd
      | some x => rw [hg] at hnd; simp at hnd; rw [hnd]
    obtain ⟨v, h1, h2⟩ := h.nodes _ nd hG
    refine ⟨v, ?_, ?_, ?_⟩
    · rw [List.getD_eq_getElem?_getD, h1, hnd]; rfl
    · rw [hnd]; exact h2.own
    · rw [hnd]; exact h2.few
  · rw [if_neg hh]
    rw [hb] at hh
    have hn : gget G i = none := by simpa using hh
    rw [hn]
    exact ⟨.slice none 0 0, rfl, World.ownsRow_nil _ _ _ _, by decide⟩

theorem node_get {w : World} {g : Nat} {F : List Nat} {E : Nat → Prop} {G : List (Option Nd)} {most : Nat} (h : GrAt w g F E G most) (i : Int) :
    Calls Tryz.prog 39 #[.pointer (some ⟨g, 0, none⟩), .int .i64 i] w (GGetPost w G i) := by
  obtain ⟨b, vl, vu, A, hi, rfl⟩ := h
  obtain ⟨hb, v, hget, ho, hfew⟩ := hi.getA i
  have hg : ∀ o : Obj, Blk (w.alloc o) g #[.pointer (some ⟨b, 0, none⟩)] 115 := fun o => hi.blk.alloc o
  have hA : ∀ o : Obj, ArAt (w.alloc o) b vl vu A := fun o => hi.ar.keep0 ((Keeps.refl _ _).alloc _)
  obtain ⟨va, vc, rfl, _⟩ := ownsRow_zero ho
  have HH := Lib.hid (And.intro hb (And.intro hget ho))
  clear hb hget ho
  unfold GGetPost
  generalize gget G i = r at *
  go_enter Tryz.func39, Tryz.ntmps39
  go_wp2_with (first | (go_at_call 68; refine (graph_places (hg _)).mono ?_; rintro e w' ⟨rfl, rfl⟩))
  refine (arena_get (hA _) hi.ok i).mono ?_
  rintro e w1 ⟨rfl, hk⟩
  obtain ⟨hb, hget, ho⟩ := HH.out
  rw [hget, hb]
  have b1 := (Blk.new w #[.int .i64 0, .int .i64 0, .slice none 0 0] 79).keep hk (by simp)
  have ho1 := ownsRow_keep (World.ownsRow.alloc ho (.cells #[.int .i64 0, .int .i64 0, .slice none 0 0] 79)) hk (by simp)
  have s1 := hk.size
  simp only [World.size_alloc] at s1
  have hS1 := Lib.hid (And.intro ho1 (And.intro hk b1))
  clear hb hget ho ho1 hk b1 HH
  go_wp2_with fail
  obtain ⟨ho1, hk, b1⟩ := hS1.out
  have ho2 := ho1.alloc (.cells #[.int .i64 (nd0 r).kind, .int .i64 (nd0 r).n, .slice va (nd0 r).args.length vc] 79)
  refine (node_own (RowAt.of_owns ho2) (fun b hb => (ho2.lt b hb).2) hfew (ints_oneCell _)).mono ?_
  rintro e w2 ⟨v', rfl, ho', hk'⟩
  have c1 := (b1.alloc (.cells #[.int .i64 (nd0 r).kind, .int .i64 (nd0 r).n, .slice va (nd0 r).args.length vc] 79)).keep hk' (by simp)
  obtain ⟨va', vc', rfl, _⟩ := ownsRow_zero ho'
  have d0 := c1.cell 0
  have d1 := c1.cell 1
  have d2 := c1.cell 2
  have e0 := c1.frozen 0
  have e1 := c1.frozen 1
  have e2 := c1.frozen 2
  have hk2 : Keeps [] w w2 := (((Keeps.refl [] w).alloc _).trans0 hk |>.alloc _).trans0 hk'
  have hbase : w.heap.size + 1 ≤ (w1.alloc (.cells #[.int .i64 (nd0 r).kind, .int .i64 (nd0 r).n, .slice va (nd0 r).args.length vc] 79)).heap.size := by simp; omega
  have ho3 := ownsRow_le ho' hbase
  have H2 := Lib.hid (And.intro ho3 hk2)
  clear ho1 hk b1 ho2 ho' hk' c1 hk2 ho3 hbase hS1
  go_wp2
  refine bodyPost_ret (v := .tuple #[.agg #[.int .i64 (nd0 r).kind, .int .i64 (nd0 r).n, .slice va' (nd0 r).args.length vc'], .bool r.isSome]) (by simp [results, Tryz.results39, go_sem, *]) rfl ?_
  obtain ⟨ho3, hk2⟩ := H2.out
  have nb : (Value.slice va' (nd0 r).args.length vc').ownBlock ≠ some w.heap.size := fun hh => by have := (ho3.lt _ hh).1; omega
  refine ⟨_, rfl, ?_, ?_⟩
  · exact ownsRow_le (ownsRow_setOther (p := ⟨_, _, none⟩) (ownsRow_setOther (p := ⟨_, _, none⟩) (ownsRow_setOther (p := ⟨_, _, none⟩) ho3 nb _) nb _) nb _) (Nat.le_succ _)
  · exact ((hk2.setCell (p := ⟨_, _, none⟩) (.inr (Nat.le_refl _)) _).setCell (p := ⟨_, _, none⟩) (.inr (Nat.le_refl _)) _).setCell (p := ⟨_, _, none⟩) (.inr (Nat.le_refl _)) _

/-! ### Set, Free -/
def gset (G : List (Option Nd)) (i : Int) (o : Option Nd) : List (Option Nd) := if (gget G i).isSome then G.set i.toNat o else G
def GSetPost (w : World) (g : Nat) (F : List Nat) (E : Nat → Prop) (G : List (Option Nd)) (most : Nat) (i : Int) (o : Option Nd) (e : Ending) (w' : World) : Prop :=
  e = .returned (.bool (gget G i).isSome) ∧ GrAt w' g F E (gset G i o) most ∧ Keeps F w w'

theorem gget_some {G : List (Option Nd)} {i : Int} (h : (gget G i).isSome = true) : 0 ≤ i ∧ i.toNat < G.length ∧ ∃ nd, G[i.toNat]? = some (some nd) ∧ gget G i = some nd := by
  obtain ⟨nd, hnd⟩ := Option.isSome_iff_exists.1 h
  have h0 : 0 ≤ i := by
    rcases Int.lt_or_le i 0 with h0 | h0
    · unfold gget at hnd; rw [if_neg (by omega)] at hnd; cases hnd
    · exact h0
  have hG : G[i.toNat]? = some (some nd) := by
    unfold gget at hnd; rw [if_pos h0] at hnd
    cases hg : G[i.toNat]? with
    | none => rw [hg] at hnd; cases hnd
    | some x => rw [hg] at hnd; simp at hnd; rw [hnd]
  exact ⟨h0, (List.getElem?_eq_some_iff.1 hG).1, nd, hG, hnd⟩

theorem set_self_true {u : List Bool} {m : Nat} (h : u.getD m false = true) : u.set m true = u := by
  rw [List.getD_eq_getElem?_getD] at h
  rcases Nat.lt_or_ge m u.length with h1 | h1
  · rw [List.getElem?_eq_getElem h1] at h
    simp at h
    rw [← h]; exact List.set_getElem_self h1
  · rw [List.getElem?_eq_none h1] at h; simp at h

theorem foot_tag {w : World} {b : Nat} {vl vu : Value} {A : Ar} (h : ArAt w b vl vu A) : ∀ x ∈ foot b vl vu, ∀ cur fz, w.heap[x]? ≠ some (.cells cur 3 fz) := by
  intro x hx cur fz hc
  simp only [foot, List.mem_cons, List.mem_append, Option.mem_toList, Option.mem_def] at hx
  rcases hx with rfl | hx | hx
  · have := h.blk; unfold Blk at this; rw [this] at hc; injection hc with hc; injection hc with _ h3 _; exact absurd h3 (by decide)
  · exact own_tag h.own hx hc (by decide)
  · exact own_tag h.used hx hc (by decide)

theorem set_gr {w w1 w2 : World} {g b : Nat} {vl vu : Value} {A : Ar} {E : Nat → Prop} {G : List (Option Nd)} {most : Nat} {i : Int} {k n : Int} {v : Value} {l : List Int} (hi : GrIn w g b vl vu A E G most) (hE : ∀ x, E x → x < w.heap.size) (hl : l.length ≤ 1000000)
    (hp : SetPost w1 b vl vu A i (k, n, v) (.returned (.bool (hasB A.u i))) w2) (ho : w1.ownsRow w.heap.size 3 1 v l.length (ints l)) (hk : Keeps [] w w1) :
    Ending.returned (.bool (hasB A.u i)) = .returned (.bool (gget G i).isSome) ∧ GrAt w2 g (foot b vl vu) E (gset G i (some ⟨k, n, l⟩)) most ∧ Keeps (foot b vl vu) w w2 := by
  have hb : hasB A.u i = (gget G i).isSome := by rw [hi.u]; exact hasB_gget G i
  refine ⟨by rw [hb], ?_⟩
  rcases hp.2 with ⟨hf, hk2⟩ | ⟨ht, hA2, hk2⟩
  · have : gset G i (some ⟨k, n, l⟩) = G := by unfold gset; rw [← hb, hf]; rfl
    rw [this]
    have hh : GrAt w g (foot b vl vu) E G most := ⟨b, vl, vu, A, hi, rfl⟩
    exact ⟨hh.keep0 (hk.trans0 hk2), (hk.trans0 hk2).of0⟩
  · have hkk : Keeps (foot b vl vu) w w2 := (hk.of0).trans hk2 (fun x hx => .inl hx)
    refine ⟨⟨b, vl, vu, _, ⟨?_, hA2, ?_, hi.most, ?_, ?_⟩, rfl⟩, hkk⟩
    · exact hi.blk.keep hkk (fun hx => by
        have hh : GrAt w g (foot b vl vu) E G most := ⟨b, vl, vu, A, hi, rfl⟩
        exact hh.lt.2.2 hx)
    · refine ⟨by simpa using hi.ok.len, hi.ok.n, hi.ok.below, hi.ok.low, hi.ok.size, hi.ok.most, fun x hx => ?_⟩
      rcases List.mem_or_eq_of_mem_set hx with h2 | rfl
      · exact hi.ok.sl x h2
      · obtain ⟨a, c, e, _⟩ := ownsRow_zero ho; exact ⟨a, _, c, e⟩
    · rw [hb] at ht
      obtain ⟨h0, hlt, nd, hG, _⟩ := gget_some ht
      simp only [gset, ht, if_true]
      rw [List.map_set]
      simp only [Option.isSome_some]
      rw [set_self_true]
      · exact hi.u
      · rw [List.getD_eq_getElem?_getD, List.getElem?_map, hG]; rfl
    · intro j nd hj
      rw [hb] at ht
      obtain ⟨h0, hlt, nd0, hG, _⟩ := gget_some ht
      have hlen : A.l.length = G.length := by rw [hi.ok.len, hi.u]; simp
      simp only [gset, ht, if_true] at hj
      by_cases hji : i.toNat = j
      · subst hji
        rw [List.getElem?_set_self hlt] at hj
        injection hj with hj; injection hj with hj; subst hj
        refine ⟨v, by rw [List.getElem?_set_self (by omega)], ⟨?_, hl, fun x hx hE' => ?_⟩⟩
        · refine ownsRow_keep (ownsRow_le ho (Nat.zero_le _)) hk2 (fun x hx hxf => ?_)
          have h1 := (ho.lt x (by simpa using hx)).1
          have h2 := hi.ar.lt x hxf
          omega
        · have h1 := (ho.lt x hx).1
          have h2 := hE x hE'
          omega
      · rw [List.getElem?_set_ne hji] at hj
        obtain ⟨v1, h1, h2⟩ := hi.nodes j nd hj
        exact ⟨v1, by rw [List.getElem?_set_ne hji]; exact h1, h2.keep hkk (fun x hx _ => .inr (foot_tag hi.ar x hx))⟩

set_option maxHeartbeats 1000000 in
theorem node_set {w : World} {g : Nat} {F : List Nat} {E S : Nat → Prop} {G : List (Option Nd)} {most : Nat} (h : GrAt w g F E G most) (hE : ∀ x, E x → x < w.heap.size) (i : Int) {k n : Int} {v : Value} {l : List Int} (hv : RowAt S w 1 v l.length (ints l)) (hS' : ∀ b, S b → b < w.heap.size) (hl : l.length ≤ 1000000) :
    Calls Tryz.prog 121 #[.pointer (some ⟨g, 0, none⟩), .int .i64 i, .agg #[.int .i64 k, .int .i64 n, v]] w (GSetPost w g F E G most i (some ⟨k, n, l⟩)) := by
  obtain ⟨b, vl, vu, A, hi, rfl⟩ := h
  obtain ⟨vb, vc, rfl, _⟩ := hv.form
  have hg : ∀ o : Obj, Blk (w.alloc o) g #[.pointer (some ⟨b, 0, none⟩)] 115 := fun o => hi.blk.alloc o
  have hrow : ∀ o : Obj, RowAt S (w.alloc o) 1 (.slice vb l.length vc) l.length (ints l) := fun o => hv.keep (fun x hx => Below.heap_alloc _ _ _ (hS' x hx))
  go_enter Tryz.func121, Tryz.ntmps121
  go_wp2
  refine wp_region_X (fun w' => w'.cell? ⟨w.heap.size, 0, none⟩ = some (.int .i64 k) ∧ w'.cell? ⟨w.heap.size, 1, none⟩ = some (.int .i64 n) ∧ w'.cell? ⟨w.heap.size, 2, none⟩ = some (.slice vb l.length vc)) [2, 4, 5, 6] (by kernel_rfl) ?_
  have hS := cells3 (show Blk (w.alloc (.cells #[.int .i64 k, .int .i64 n, .slice vb l.length vc] 79)).drew w.heap.size #[.int .i64 k, .int .i64 n, .slice vb l.length vc] 79 from Blk.new _ _ _)
  refine wpAnyX_take0 [2] 6 (by kernel_rfl) (fun _ _ d _ _ h => by cases d <;> exact h) (by kernel_rfl) (by simp only [List.map_cons, List.map_nil, List.getElem?_toArray, List.getElem?_cons_zero, List.getElem?_cons_succ]; rfl) ?_
  repeat (refine SegThen.step (v := ?_) (by rfl) (fun w' hSw => ?_) ?_; rotate_left 1; (focus ((try dsimp only at hSw); go_simp; (try with_reducible rfl))); simp only [Act.put, List.setIfInBounds_toArray, List.set_cons_zero, List.set_cons_succ])
  refine SegThen.nil ?_
  refine wpAnyX_take [0, 3] 4 (by kernel_rfl) (fun _ _ d _ _ h => by cases d <;> exact h) (by kernel_rfl) (by simp only [List.map_cons, List.map_nil, List.getElem?_toArray, List.getElem?_cons_zero, List.getElem?_cons_succ]; rfl) hS ?_
  repeat (refine SegThen.step (v := ?_) (by rfl) (fun w' hSw => ?_) ?_; rotate_left 1; (focus ((try dsimp only at hSw); go_simp; (try with_reducible rfl))); simp only [Act.put, List.setIfInBounds_toArray, List.set_cons_zero, List.set_cons_succ])
  refine SegThen.nil ?_
  refine wpAnyX_one 1 (by kernel_rfl) (by simp only [List.getElem?_toArray, List.getElem?_cons_zero, List.getElem?_cons_succ]; rfl) ?_
  go_wp2_with (go_at_call 68; refine (graph_places (by exact hg _)).mono ?_; rintro e w' ⟨rfl, rfl⟩)
  refine QX_intro (fun _ => hS) ?_
  refine wpAnyX_tail [4, 5, 6] _ (by kernel_rfl) (by simp only [List.map_cons, List.map_nil, List.getElem?_toArray, List.getElem?_cons_zero, List.getElem?_cons_succ]; rfl) rfl ?_
  dsimp only [List.filterMap, id]
  clear hS hg
  go_wp2_with fail
  refine (node_own (S := S) (by exact hrow _) (fun b hb => by have := hS' b hb; simp; omega) hl (ints_oneCell l)).mono ?_
  rintro e w1 ⟨v', rfl, ho, hk⟩
  obtain ⟨va, vac, rfl, _⟩ := ownsRow_zero ho
  have hA0 := hi.ar.keep0 ((Keeps.refl [] w).alloc (.cells #[.int .i64 k, .int .i64 n, .slice vb l.length vc] 79))
  have hA1 := hA0.drew.keep0 hk
  have hk1 : Keeps [] w w1 := ((Keeps.refl [] w).alloc _).drew.trans0 hk
  have HH := Lib.hid (And.intro (ownsRow_le ho (show w.heap.size ≤ _ by simp)) (And.intro hk1 hA1))
  clear ho hk hA0 hA1 hrow hk1
  go_wp2_with fail
  obtain ⟨ho, hk, hA1⟩ := HH.out
  refine (arena_set hA1 hi.ok i k n _ ⟨_, _, _, rfl⟩).mono ?_
  intro e w2 hp
  obtain rfl := hp.1
  have HP := Lib.hid (set_gr hi hE hl hp ho hk)
  clear hp ho hk hA1 HH
  go_wp2
  go_ret
  exact HP.out

end Go.Proofs.YtokbjopmfcggdaaGreat
