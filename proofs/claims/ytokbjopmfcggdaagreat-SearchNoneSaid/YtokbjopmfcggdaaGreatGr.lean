/- A graph as a list of places; node's methods over it. -/
import Derived.Test.YtokbjopmfcggdaaGreatGraph
namespace Go.Proofs.YtokbjopmfcggdaaGreat
open Go.RowKit
set_option linter.unusedVariables false
set_option linter.unusedSimpArgs false
set_option linter.unnecessarySimpa false

structure Nd where
  kind : Int
  n : Int
  args : List Int
  deriving DecidableEq, Inhabited

def ints (l : List Int) : List Value := l.map (Value.int .i64)
theorem ints_length (l : List Int) : (ints l).length = l.length := by simp [ints]
theorem ints_oneCell (l : List Int) : ∀ u ∈ ints l, u.oneCell' = true := by
  intro u hu; simp [ints] at hu; obtain ⟨a, _, rfl⟩ := hu; rfl

/-- A node's arguments: a row of its own, none of E's. -/
structure ArgsAt (w : World) (E : Nat → Prop) (v : Value) (l : List Int) : Prop where
  own : w.ownsRow 0 3 1 v l.length (ints l)
  few : l.length ≤ 1000000
  apart : ∀ x, v.ownBlock = some x → ¬ E x

structure GrIn (w : World) (g b : Nat) (vl vu : Value) (A : Ar) (E : Nat → Prop) (G : List (Option Nd)) (most : Nat) : Prop where
  blk : Blk w g #[.pointer (some ⟨b, 0, none⟩)] 115
  ar : ArAt w b vl vu A
  ok : A.Ok
  most : A.most = most
  u : A.u = G.map Option.isSome
  nodes : ∀ (i : Nat) (nd : Nd), G[i]? = some (some nd) → ∃ v, A.l[i]? = some (nd.kind, nd.n, v) ∧ ArgsAt w E v nd.args

def GrAt (w : World) (g : Nat) (F : List Nat) (E : Nat → Prop) (G : List (Option Nd)) (most : Nat) : Prop := ∃ b vl vu A, GrIn w g b vl vu A E G most ∧ F = foot b vl vu

/-- How many nodes there are. -/
def cnt (G : List (Option Nd)) : Nat := (G.map Option.isSome).count true
/-- The first free place. -/
def freeAt (G : List (Option Nd)) : Nat := G.findIdx Option.isNone
def gput (G : List (Option Nd)) (nd : Nd) : List (Option Nd) := putAt G (freeAt G) (some nd)
def gget (G : List (Option Nd)) (i : Int) : Option Nd := if 0 ≤ i then (G[i.toNat]?).join else none

theorem hasB_gget (G : List (Option Nd)) (i : Int) : hasB (G.map Option.isSome) i = (gget G i).isSome := by
  unfold hasB gget
  by_cases h : 0 ≤ i
  · simp only [h, decide_true, Bool.true_and, if_true]
    rw [List.getD_eq_getElem?_getD, List.getElem?_map]
    cases G[i.toNat]? with
    | none => rfl
    | some o => cases o <;> rfl
  · simp [h]

theorem own_tag {w : World} {base : Nat} {e t : TypeId} {size n : Nat} {v : Value} {xs : List Value} {x : Nat} {cur : Array Value} {fz : Nat × Nat} (h : w.ownsRow base e size v n xs) (hx : v.ownBlock = some x) (hc : w.heap[x]? = some (.cells cur t fz)) (he : e ≠ t) : False := by
  rcases h.2 with ⟨rfl, _⟩ | ⟨g, cap, cur', rfl, _, hg, _⟩
  · simp [Value.ownBlock] at hx
  · simp only [Value.ownBlock, Option.some.injEq] at hx
    subst hx
    rw [hc] at hg
    injection hg with hg
    injection hg with _ h3 _
    exact he h3.symm
theorem ArgsAt.keep {w w' : World} {M : List Nat} {E : Nat → Prop} {v : Value} {l : List Int} (h : ArgsAt w E v l) (k : Keeps M w w') (hM : ∀ x ∈ M, x < w.heap.size → E x ∨ ∀ cur fz, w.heap[x]? ≠ some (.cells cur 3 fz)) : ArgsAt w' E v l := by
  refine ⟨ownsRow_keep h.own k (fun x hx hxm => ?_), h.few, h.apart⟩
  have hx' : v.ownBlock = some x := by simpa using hx
  rcases hM x hxm (h.own.lt x hx').2 with h1 | h1
  · exact h.apart x hx' h1
  · rcases h.own.2 with ⟨rfl, _⟩ | ⟨g, cap, cur, rfl, _, hg, _⟩
    · simp [Value.ownBlock] at hx'
    · simp only [Value.ownBlock, Option.some.injEq] at hx'
      subst hx'
      exact h1 _ _ hg

theorem GrAt.keep {w w' : World} {g : Nat} {F M : List Nat} {E : Nat → Prop} {G : List (Option Nd)} {most : Nat} (h : GrAt w g F E G most) (k : Keeps M w w') (hM : ∀ x ∈ M, x < w.heap.size → x ∉ F ∧ x ≠ g ∧ (E x ∨ ∀ cur fz, w.heap[x]? ≠ some (.cells cur 3 fz))) : GrAt w' g F E G most := by
  obtain ⟨b, vl, vu, A, hi, rfl⟩ := h
  refine ⟨b, vl, vu, A, ⟨hi.blk.keep k (fun hx => (hM g hx hi.blk.lt).2.1 rfl), hi.ar.keep k (fun x hx hxm => (hM x hxm (hi.ar.lt x hx)).1 hx), hi.ok, hi.most, hi.u, fun i nd hn => ?_⟩, rfl⟩
  obtain ⟨v, h1, h2⟩ := hi.nodes i nd hn
  exact ⟨v, h1, h2.keep k (fun x hx hl => (hM x hx hl).2.2)⟩
theorem GrAt.keep0 {w w' : World} {g : Nat} {F : List Nat} {E : Nat → Prop} {G : List (Option Nd)} {most : Nat} (h : GrAt w g F E G most) (k : Keeps [] w w') : GrAt w' g F E G most := h.keep k (fun x hx => by simp at hx)
theorem GrAt.lt {w : World} {g : Nat} {F : List Nat} {E : Nat → Prop} {G : List (Option Nd)} {most : Nat} (h : GrAt w g F E G most) : (∀ x ∈ F, x < w.heap.size) ∧ g < w.heap.size ∧ g ∉ F := by
  obtain ⟨b, vl, vu, A, hi, rfl⟩ := h
  refine ⟨hi.ar.lt, hi.blk.lt, fun hg => ?_⟩
  simp only [foot, List.mem_cons, List.mem_append, Option.mem_toList, Option.mem_def] at hg
  rcases hg with rfl | hg | hg
  · exact hi.blk.ne hi.ar.blk (by decide) rfl
  · exact own_ne hi.blk hi.ar.own (by decide) hg
  · exact own_ne hi.blk hi.ar.used (by decide) hg
/-- Blocks that are not there yet may be set apart. -/
theorem GrAt.apart {w : World} {g : Nat} {F : List Nat} {E E' : Nat → Prop} {G : List (Option Nd)} {most : Nat} (h : GrAt w g F E G most) (he : ∀ x, E' x → x < w.heap.size → E x) : GrAt w g F E' G most := by
  obtain ⟨b, vl, vu, A, hi, rfl⟩ := h
  refine ⟨b, vl, vu, A, ⟨hi.blk, hi.ar, hi.ok, hi.most, hi.u, fun i nd hn => ?_⟩, rfl⟩
  obtain ⟨v, h1, h2⟩ := hi.nodes i nd hn
  exact ⟨v, h1, h2.own, h2.few, fun x hx hE => h2.apart x hx (he x hE (h2.own.lt x hx).2)⟩

/-! ### New, places, Len, Most, Room -/
def GNewPost (w : World) (n : Int) (e : Ending) (w' : World) : Prop :=
  ∃ g F, e = .returned (.pointer (some ⟨g, 0, none⟩)) ∧ w.heap.size ≤ g ∧ (∀ x ∈ F, w.heap.size ≤ x) ∧ GrAt w' g F (fun x => x < w.heap.size) [] (clampMost n) ∧ Keeps [] w w'
theorem node_new (n : Int) (w : World) : Calls Tryz.prog 33 #[.int .i64 n] w (GNewPost w n) := by
  go_enter Tryz.func33, Tryz.ntmps33
  go_wp2_with fail
  refine (arena_new n _).mono ?_
  rintro e w1 ⟨b, rfl, hb, hA, hk⟩
  have HH := Lib.hid (And.intro hb (And.intro hA hk))
  clear hb hA hk
  go_wp2
  go_ret
  obtain ⟨rfl, hA, hk⟩ := HH.out
  refine ⟨w1.heap.size, _, rfl, hk.size, ?_, ⟨_, _, _, _, ⟨Blk.new _ _ _, hA.keep0 ((Keeps.refl _ _).alloc _), clamp_ok n, rfl, rfl, fun i nd h => by simp at h⟩, rfl⟩, hk.alloc _⟩
  intro x hx
  simp [foot, Value.ownBlock] at hx
  omega

theorem graph_places {w : World} {g b : Nat} {t : TypeId} (h : Blk w g #[.pointer (some ⟨b, 0, none⟩)] t) : Calls Tryz.prog 68 #[.pointer (some ⟨g, 0, none⟩)] w fun e w' => e = .returned (.pointer (some ⟨b, 0, none⟩)) ∧ w = w' := by
  have c0 := h.cell 0
  clear h
  go_enter Tryz.func68, Tryz.ntmps68
  go_wp2
  go_ret
  exact ⟨rfl, rfl⟩

theorem GrIn.count {w : World} {g b : Nat} {vl vu : Value} {A : Ar} {E : Nat → Prop} {G : List (Option Nd)} {most : Nat} (h : GrIn w g b vl vu A E G most) : A.n = cnt G := by rw [h.ok.n, h.u]; rfl
theorem node_len {w : World} {g : Nat} {F : List Nat} {E : Nat → Prop} {G : List (Option Nd)} {most : Nat} (h : GrAt w g F E G most) : Calls Tryz.prog 41 #[.pointer (some ⟨g, 0, none⟩)] w fun e w' => e = .returned (.int .i64 (cnt G : Nat)) ∧ w = w' := by
  obtain ⟨b, vl, vu, A, hi, rfl⟩ := h
  rw [← hi.count]
  go_enter Tryz.func41, Tryz.ntmps41
  go_wp2_with (first | (go_at_call 68; refine (graph_places hi.blk).mono ?_; rintro e w' ⟨rfl, rfl⟩) | (go_at_call 71; refine (arena_len b _ _ _ _ hi.ar.blk rfl).mono ?_; rintro e w' ⟨rfl, rfl⟩))
  go_ret
  exact ⟨rfl, rfl⟩
theorem node_most {w : World} {g : Nat} {F : List Nat} {E : Nat → Prop} {G : List (Option Nd)} {most : Nat} (h : GrAt w g F E G most) : Calls Tryz.prog 84 #[.pointer (some ⟨g, 0, none⟩)] w fun e w' => e = .returned (.int .i64 (most : Nat)) ∧ w = w' := by
  obtain ⟨b, vl, vu, A, hi, rfl⟩ := h
  rw [← hi.most]
  go_enter Tryz.func84, Tryz.ntmps84
  go_wp2_with (first | (go_at_call 68; refine (graph_places hi.blk).mono ?_; rintro e w' ⟨rfl, rfl⟩) | (go_at_call 102; refine (arena_most b _ _ _ _ hi.ar.blk rfl).mono ?_; rintro e w' ⟨rfl, rfl⟩))
  go_ret
  exact ⟨rfl, rfl⟩
theorem GrAt.cntLe {w : World} {g : Nat} {F : List Nat} {E : Nat → Prop} {G : List (Option Nd)} {most : Nat} (h : GrAt w g F E G most) : cnt G ≤ most ∧ most ≤ 65536 ∧ G.length ≤ most := by
  obtain ⟨b, vl, vu, A, hi, rfl⟩ := h
  have h1 := hi.ok.size
  have h2 := hi.ok.most
  have h3 := hi.most
  have h4 : A.u.length = G.length := by rw [hi.u]; simp
  have h5 : cnt G ≤ G.length := by unfold cnt; exact Nat.le_trans List.count_le_length (by simp)
  omega
def room (G : List (Option Nd)) (most : Nat) (n : Int) : Bool := decide (0 ≤ n ∧ n ≤ (most : Int) - (cnt G : Int))
theorem node_room {w : World} {g : Nat} {F : List Nat} {E : Nat → Prop} {G : List (Option Nd)} {most : Nat} (h : GrAt w g F E G most) (n : Int) : Calls Tryz.prog 62 #[.pointer (some ⟨g, 0, none⟩), .int .i64 n] w fun e w' => e = .returned (.bool (room G most n)) ∧ w = w' := by
  obtain ⟨h1, h2, _⟩ := h.cntLe
  have hm := node_most h
  have hl := node_len h
  by_cases h0 : 0 ≤ n
  · by_cases h3 : n ≤ (most : Int) - (cnt G : Int)
    · have hr : room G most n = true := by simp [room, h0, h3]
      rw [hr]
      have HM := Lib.hid hm
      have HL := Lib.hid hl
      clear hm hl
      generalize cnt G = c at *
      go_enter Tryz.func62, Tryz.ntmps62
      go_wp2_with (first | (go_at_call 84; refine (HM.out).mono ?_; rintro e w' ⟨rfl, rfl⟩) | (go_at_call 41; refine (HL.out).mono ?_; rintro e w' ⟨rfl, rfl⟩))
      go_ret
      exact ⟨rfl, rfl⟩
    · have hr : room G most n = false := by simp [room, h0, h3]
      rw [hr]
      have hd : decide (n ≤ (most : Int) - (cnt G : Int)) = false := decide_eq_false h3
      have HM := Lib.hid hm
      have HL := Lib.hid hl
      clear hm hl
      generalize cnt G = c at *
      go_enter Tryz.func62, Tryz.ntmps62
      go_wp2_with (first | (go_at_call 84; refine (HM.out).mono ?_; rintro e w' ⟨rfl, rfl⟩) | (go_at_call 41; refine (HL.out).mono ?_; rintro e w' ⟨rfl, rfl⟩))
      go_ret
      exact ⟨rfl, rfl⟩
  · have hr : room G most n = false := by simp [room, h0]
    rw [hr]
    go_enter Tryz.func62, Tryz.ntmps62
    go_wp2
    go_ret
    exact ⟨rfl, rfl⟩

/-! ### Put -/
def GPutPost (w : World) (g : Nat) (F : List Nat) (E : Nat → Prop) (G : List (Option Nd)) (most : Nat) (nd : Nd) (e : Ending) (w' : World) : Prop :=
  (cnt G = most ∧ e = .returned (.tuple #[.int .i64 0, .bool false]) ∧ Keeps [] w w') ∨
  (cnt G < most ∧ ∃ F', e = .returned (.tuple #[.int .i64 (freeAt G : Nat), .bool true]) ∧ GrAt w' g F' E (gput G nd) most ∧ Keeps F w w' ∧ ∀ x ∈ F', x ∈ F ∨ w.heap.size ≤ x)

theorem freeAt_of {G : List (Option Nd)} {i : Nat} (hi : i ≤ G.length) (hf : (G.map Option.isSome).getD i false = false) (hb : ∀ j, j < i → (G.map Option.isSome).getD j false = true) : freeAt G = i := by
  unfold freeAt
  rcases Nat.lt_or_ge i G.length with h | h
  · rw [List.findIdx_eq h]
    refine ⟨?_, fun j hj => ?_⟩
    · rw [List.getD_eq_getElem?_getD, List.getElem?_map, List.getElem?_eq_getElem h] at hf
      simpa using hf
    · have := hb j hj
      rw [List.getD_eq_getElem?_getD, List.getElem?_map, List.getElem?_eq_getElem (by omega)] at this
      simpa using this
  · obtain rfl : i = G.length := by omega
    rw [List.findIdx_eq_length]
    intro x hx
    obtain ⟨j, hj, rfl⟩ := List.getElem_of_mem hx
    have := hb j hj
    rw [List.getD_eq_getElem?_getD, List.getElem?_map, List.getElem?_eq_getElem hj] at this
    simpa using this

theorem putAt_map {α β : Type} (f : α → β) (l : List α) (i : Nat) (x : α) : (putAt l i x).map f = putAt (l.map f) i (f x) := by
  unfold putAt; simp only [List.length_map]; split <;> simp [List.map_set]
theorem putAt_get {α : Type} (l : List α) (i : Nat) (x : α) (hi : i ≤ l.length) (j : Nat) : (putAt l i x)[j]? = if j = i then some x else l[j]? := by
  unfold putAt
  split
  · rename_i h
    by_cases hj : j = i
    · subst hj; simp [h]
    · rw [List.getElem?_set_ne (Ne.symm hj), if_neg hj]
  · obtain rfl : i = l.length := by omega
    by_cases hj : j = l.length
    · subst hj; simp
    · rw [if_neg hj, List.getElem?_append]
      split
      · rfl
      · rw [List.getElem?_singleton, if_neg (by omega), List.getElem?_eq_none (by omega)]

theorem put_gr {w w1 w2 : World} {g b : Nat} {vl vu vl' vu' : Value} {A : Ar} {E : Nat → Prop} {G : List (Option Nd)} {most i : Nat} {k n : Int} {v : Value} {l : List Int} {o : Obj} (hi : GrIn w g b vl vu A E G most) (hE : ∀ x, E x → x < w.heap.size) (hl : l.length ≤ 1000000)
    (hlt : A.n < A.most) (hile : i ≤ A.u.length) (hif : A.u.getD i false = false) (hbe : ∀ j, j < i → A.u.getD j false = true) (hA2 : ArAt w2 b vl' vu' (A.put i (k, n, v))) (hk2 : Keeps (foot b vl vu) w1 w2) (hft : ∀ z ∈ foot b vl' vu', z ∈ foot b vl vu ∨ w1.heap.size ≤ z)
    (ho : w1.ownsRow (w.heap.size + 1) 3 1 v l.length (ints l)) (hk : Keeps [] (w.alloc o).drew w1) :
    cnt G < most ∧ ∃ F', Ending.returned (.tuple #[.int .i64 (i : Nat), .bool true]) = .returned (.tuple #[.int .i64 (freeAt G : Nat), .bool true]) ∧ GrAt w2 g F' E (gput G ⟨k, n, l⟩) most ∧ Keeps (foot b vl vu) w w2 ∧ ∀ x ∈ F', x ∈ foot b vl vu ∨ w.heap.size ≤ x := by
  have hfa : freeAt G = i := by
    refine freeAt_of ?_ ?_ ?_
    · rw [hi.u] at hile; simpa using hile
    · rw [← hi.u]; exact hif
    · rw [← hi.u]; exact hbe
  have hsl : ∃ base n cap, v = Value.slice base n cap := by obtain ⟨a, c, e, _⟩ := ownsRow_zero ho; exact ⟨a, _, c, e⟩
  have hlen : A.l.length = G.length := by rw [hi.ok.len, hi.u]; simp
  have hiG : i ≤ G.length := by rw [hi.u] at hile; simpa using hile
  have hk' : Keeps [] w w1 := ((Keeps.refl [] w).alloc _).drew.trans0 hk
  have hsz := hk'.size
  have hk'' : Keeps (foot b vl vu) w w2 := (hk'.of0).trans hk2 (fun x hx => .inl hx)
  refine ⟨by have := hi.count; have := hi.most; omega, foot b vl' vu', by rw [hfa], ⟨b, vl', vu', _, ⟨?_, hA2, hi.ok.put _ hsl hile hif hbe hlt, hi.most, ?_, ?_⟩, rfl⟩, hk'', fun x hx => ?_⟩
  · exact hi.blk.keep hk'' (fun hx => by
      have hh : GrAt w g (foot b vl vu) E G most := ⟨b, vl, vu, A, hi, rfl⟩
      exact hh.lt.2.2 hx)
  · simp only [Ar.put, gput]; rw [hfa, putAt_map, hi.u]; rfl
  · intro j nd hj
    simp only [gput, hfa] at hj
    rw [putAt_get _ _ _ hiG] at hj
    simp only [Ar.put]
    rw [putAt_get _ _ _ (by omega)]
    split at hj
    · rename_i hji
      injection hj with hj; injection hj with hj; subst hj
      rw [if_pos hji]
      refine ⟨v, rfl, ⟨?_, hl, fun x hx hE' => ?_⟩⟩
      · refine ownsRow_keep (ownsRow_le ho (Nat.zero_le _)) hk2 (fun x hx hxf => ?_)
        have h1 := (ho.lt x (by simpa using hx)).1
        have h2 := hi.ar.lt x hxf
        omega
      · have h1 := (ho.lt x hx).1
        have h2 := hE x hE'
        omega
    · rename_i hji
      rw [if_neg hji]
      obtain ⟨v1, h1, h2⟩ := hi.nodes j nd hj
      refine ⟨v1, h1, h2.keep hk'' (fun x hx hxl => .inr (fun cur fz hc => ?_))⟩
      simp only [foot, List.mem_cons, List.mem_append, Option.mem_toList, Option.mem_def] at hx
      rcases hx with rfl | hx | hx
      · have := hi.ar.blk; unfold Blk at this; rw [this] at hc; injection hc with hc; injection hc with _ h3 _; exact absurd h3 (by decide)
      · exact own_tag hi.ar.own hx hc (by decide)
      · exact own_tag hi.ar.used hx hc (by decide)
  · rcases hft x hx with h1 | h1
    · exact .inl h1
    · exact .inr (by omega)

set_option maxHeartbeats 1000000 in
theorem node_put {w : World} {g : Nat} {F : List Nat} {E S : Nat → Prop} {G : List (Option Nd)} {most : Nat} (h : GrAt w g F E G most) (hE : ∀ x, E x → x < w.heap.size) {k n : Int} {v : Value} {l : List Int} (hv : RowAt S w 1 v l.length (ints l)) (hS' : ∀ b, S b → b < w.heap.size) (hl : l.length ≤ 1000000) :
    Calls Tryz.prog 85 #[.pointer (some ⟨g, 0, none⟩), .agg #[.int .i64 k, .int .i64 n, v]] w (GPutPost w g F E G most ⟨k, n, l⟩) := by
  obtain ⟨b, vl, vu, A, hi, rfl⟩ := h
  obtain ⟨vb, vc, rfl, _⟩ := hv.form
  have hg : ∀ o : Obj, Blk (w.alloc o) g #[.pointer (some ⟨b, 0, none⟩)] 115 := fun o => hi.blk.alloc o
  have hrow : ∀ o : Obj, RowAt S (w.alloc o) 1 (.slice vb l.length vc) l.length (ints l) := fun o => hv.keep (fun x hx => Below.heap_alloc _ _ _ (hS' x hx))
  go_enter Tryz.func85, Tryz.ntmps85
  go_wp2
  have hS0 : w.cell? ⟨w.heap.size, 0, none⟩ = w.cell? ⟨w.heap.size, 0, none⟩ := rfl
  refine wp_region_X (fun w' => w'.cell? ⟨w.heap.size, 0, none⟩ = some (.int .i64 k) ∧ w'.cell? ⟨w.heap.size, 1, none⟩ = some (.int .i64 n) ∧ w'.cell? ⟨w.heap.size, 2, none⟩ = some (.slice vb l.length vc)) [3, 4, 5, 6, 7, 8] (by kernel_rfl) ?_
  have hS := cells3 (show Blk (w.alloc (.cells #[.int .i64 k, .int .i64 n, .slice vb l.length vc] 79)).drew w.heap.size #[.int .i64 k, .int .i64 n, .slice vb l.length vc] 79 from Blk.new _ _ _)
  refine wpAnyX_take [0, 2] 7 (by kernel_rfl) (fun _ _ d _ _ h => by cases d <;> exact h) (by kernel_rfl) (by simp only [List.map_cons, List.map_nil, List.getElem?_toArray, List.getElem?_cons_zero, List.getElem?_cons_succ]; rfl) hS ?_
  repeat (refine SegThen.step (v := ?_) (by rfl) (fun w' hSw => ?_) ?_; rotate_left 1; (focus ((try dsimp only at hSw); go_simp; (try with_reducible rfl))); simp only [Act.put, List.setIfInBounds_toArray, List.set_cons_zero, List.set_cons_succ])
  refine SegThen.nil ?_
  refine wpAnyX_one 1 (by kernel_rfl) (by simp only [List.getElem?_toArray, List.getElem?_cons_zero, List.getElem?_cons_succ]; rfl) ?_
  go_wp2_with (go_at_call 68; refine (graph_places (by exact hg _)).mono ?_; rintro e w' ⟨rfl, rfl⟩)
  refine QX_intro (fun _ => hS) ?_
  refine wpAnyX_run [3, 4] _ 4 (by kernel_rfl) (by simp only [List.map_cons, List.map_nil, List.getElem?_toArray, List.getElem?_cons_zero, List.getElem?_cons_succ]; rfl) rfl ?_
  dsimp only [List.filterMap, id]
  clear hS hg
  go_wp2_with fail
  refine (node_own (S := S) (by exact hrow _) (fun b hb => by have := hS' b hb; simp; omega) hl (ints_oneCell l)).mono ?_
  rintro e w1 ⟨v', rfl, ho, hk⟩
  obtain ⟨va, vac, rfl, _⟩ := ownsRow_zero ho
  have hA0 := hi.ar.keep0 ((Keeps.refl [] w).alloc (.cells #[.int .i64 k, .int .i64 n, .slice vb l.length vc] 79))
  have hA1 := hA0.drew.keep0 hk
  have HH := Lib.hid (And.intro ho (And.intro hk hA1))
  have hk0 := Lib.hid hk
  clear ho hk hA0 hA1 hrow
  go_wp2_with fail
  obtain ⟨ho, hk, hA1⟩ := HH.out
  refine (arena_put hA1 hi.ok k n _ ⟨_, _, _, rfl⟩).mono ?_
  intro e w2 hp
  rcases hp with ⟨hfull, rfl, hk2⟩ | ⟨hlt, i, vl', vu', hile, hif, hlo, hbe, rfl, hA2, hk2, hft⟩
  · have HF := Lib.hid hfull
    have HK := Lib.hid hk2
    clear hfull hk2 HH ho hk hA1
    go_wp2
    refine QR_intro ?_
    refine wpAnyX_take0 [5, 6] 2 (by kernel_rfl) (fun _ _ d _ _ h => by cases d <;> exact h) (by kernel_rfl) (by simp only [List.map_cons, List.map_nil, List.getElem?_toArray, List.getElem?_cons_zero, List.getElem?_cons_succ]; rfl) ?_
    repeat (refine SegThen.step (v := ?_) (by rfl) (fun w' hSw => ?_) ?_; rotate_left 1; (focus ((try dsimp only at hSw); go_simp; (try with_reducible rfl))); simp only [Act.put, List.setIfInBounds_toArray, List.set_cons_zero, List.set_cons_succ])
    refine SegThen.nil ?_
    refine wpAnyX_tail [7, 8] _ (by kernel_rfl) (by simp only [List.map_cons, List.map_nil, List.getElem?_toArray, List.getElem?_cons_zero, List.getElem?_cons_succ]; rfl) rfl ?_
    dsimp only [List.filterMap, id]
    go_wp2
    go_ret2
    refine .inl ⟨?_, rfl, ?_⟩
    · have := HF.out; have := hi.count; have := hi.most; omega
    · exact (((Keeps.refl [] w).alloc _).drew.trans0 hk0.out).trans0 HK.out
  · have HP := Lib.hid (And.intro hlt (And.intro hile (And.intro hif (And.intro hbe (And.intro hA2 (And.intro hk2 (And.intro hft (And.intro ho hk))))))))
    clear hlt hile hif hbe hA2 hk2 hft ho hk hA1 HH hlo
    go_wp2
    refine QR_intro ?_
    refine wpAnyX_take0 [5, 6] 2 (by kernel_rfl) (fun _ _ d _ _ h => by cases d <;> exact h) (by kernel_rfl) (by simp only [List.map_cons, List.map_nil, List.getElem?_toArray, List.getElem?_cons_zero, List.getElem?_cons_succ]; rfl) ?_
    repeat (refine SegThen.step (v := ?_) (by rfl) (fun w' hSw => ?_) ?_; rotate_left 1; (focus ((try dsimp only at hSw); go_simp; (try with_reducible rfl))); simp only [Act.put, List.setIfInBounds_toArray, List.set_cons_zero, List.set_cons_succ])
    refine SegThen.nil ?_
    refine wpAnyX_tail [7, 8] _ (by kernel_rfl) (by simp only [List.map_cons, List.map_nil, List.getElem?_toArray, List.getElem?_cons_zero, List.getElem?_cons_succ]; rfl) rfl ?_
    dsimp only [List.filterMap, id]
    go_wp2
    go_ret2
    obtain ⟨hlt, hile, hif, hbe, hA2, hk2, hft, ho, hk⟩ := HP.out
    refine .inr (put_gr hi hE hl hlt hile hif hbe hA2 hk2 hft (by simpa using ho) hk)

end Go.Proofs.YtokbjopmfcggdaaGreat
