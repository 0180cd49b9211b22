/- The arena of nodes: what it is in memory, and what its methods do. -/
import Derived.Test.YtokbjopmfcggdaaGreatBase
import Derived.Test.YtokbjopmfcggdaaGreatRows
import Derived.Deep.AppendLies
import Derived.Deep.RegionLaw
import Derived.Deep.RegionHeld3
import Derived.Deep.QuietTactic
import Derived.BigQuiet
namespace Go.Proofs.YtokbjopmfcggdaaGreat
open Go.RowKit
set_option linter.unusedVariables false
set_option linter.unusedSimpArgs false
set_option linter.unnecessarySimpa false

/-- An arena: nodes as they lie (kind, number, the arguments' slice), which places are used, how many, below which all are, how many there may be. -/
structure Ar where
  l : List (Int × Int × Value)
  u : List Bool
  n : Nat
  low : Nat
  most : Nat

def flat : List (Int × Int × Value) → List Value
  | [] => []
  | (k, n, v) :: r => .int .i64 k :: .int .i64 n :: v :: flat r
theorem flat_length (l : List (Int × Int × Value)) : (flat l).length = l.length * 3 := by
  induction l with
  | nil => rfl
  | cons a l ih => obtain ⟨k, n, v⟩ := a; simp [flat, ih]; omega
theorem flat_append (l r : List (Int × Int × Value)) : flat (l ++ r) = flat l ++ flat r := by
  induction l with
  | nil => rfl
  | cons a l ih => obtain ⟨k, n, v⟩ := a; simp [flat, ih]

/-- How it lies in memory. -/
structure ArAt (w : World) (b : Nat) (vl vu : Value) (A : Ar) : Prop where
  blk : Blk w b #[vl, vu, .int .i64 (A.n : Nat), .int .i64 (A.low : Nat), .int .i64 (A.most : Nat)] 138
  own : w.ownsRow 0 79 3 vl A.l.length (flat A.l)
  used : w.ownsRow 0 4 1 vu A.u.length (A.u.map Value.bool)

structure Ar.Ok (A : Ar) : Prop where
  len : A.l.length = A.u.length
  n : A.n = A.u.count true
  below : ∀ i, i < A.low → A.u.getD i false = true
  low : A.low ≤ A.u.length
  size : A.u.length ≤ A.most
  most : A.most ≤ 65536
  sl : ∀ x ∈ A.l, ∃ base n cap, x.2.2 = Value.slice base n cap

theorem arena_len (b : Nat) (cs : Array Value) (n : Int) (t : TypeId) (w : World) (h : Blk w b cs t) (hn : cs[2]? = some (.int .i64 n)) : Calls Tryz.prog 71 #[.pointer (some ⟨b, 0, none⟩)] w fun e w' => e = .returned (.int .i64 n) ∧ w = w' := by
  have hc := (h.cell 2).trans hn
  clear h
  go_enter Tryz.func71, Tryz.ntmps71
  go_wp2
  go_ret
  exact ⟨rfl, rfl⟩
theorem arena_most (b : Nat) (cs : Array Value) (n : Int) (t : TypeId) (w : World) (h : Blk w b cs t) (hn : cs[4]? = some (.int .i64 n)) : Calls Tryz.prog 102 #[.pointer (some ⟨b, 0, none⟩)] w fun e w' => e = .returned (.int .i64 n) ∧ w = w' := by
  have hc := (h.cell 4).trans hn
  clear h
  go_enter Tryz.func102, Tryz.ntmps102
  go_wp2
  go_ret
  exact ⟨rfl, rfl⟩

theorem ownsRow_zero {w : World} {base : Nat} {e : TypeId} {size : Nat} {v : Value} {xs : List Value} {n : Nat} (h : w.ownsRow base e size v n xs) : ∃ a cap, v = .slice a n cap ∧ n ≤ cap := by
  rcases h.2 with ⟨rfl, rfl⟩ | ⟨g, cap, cur, rfl, _, _, h1, _⟩
  · exact ⟨none, 0, rfl, Nat.le_refl _⟩
  · exact ⟨_, cap, rfl, h1⟩
theorem ownsRow_cells {w : World} {base : Nat} {e : TypeId} {size : Nat} {v : Value} {xs : List Value} {n : Nat} (h : w.ownsRow base e size v n xs) (hn : 0 < n) :
    ∃ g cap, v = .slice (some ⟨g, 0, none⟩) n cap ∧ n ≤ cap ∧ cap ≤ maxLen ∧ ∀ j u, xs[j]? = some u → w.cell? ⟨g, j, none⟩ = some u := by
  rcases h.2 with ⟨rfl, rfl⟩ | ⟨g, cap, cur, rfl, _, hg, h1, h2, h3, h4⟩
  · omega
  · refine ⟨g, cap, rfl, h1, h2, fun j u hu => ?_⟩
    rw [← h4, List.getElem?_take] at hu
    split at hu
    · simp [World.cell?, hg]; simpa using hu
    · cases hu

def hasB (u : List Bool) (i : Int) : Bool := decide (0 ≤ i) && u.getD i.toNat false

theorem arena_has {w : World} {b : Nat} {vl vu : Value} {A : Ar} (h : ArAt w b vl vu A) (hsm : A.u.length ≤ 65536) (i : Int) :
    Calls Tryz.prog 88 #[.pointer (some ⟨b, 0, none⟩), .int .i64 i] w fun e w' => e = .returned (.bool (hasB A.u i)) ∧ w = w' := by
  have hc := h.blk.cell 1
  obtain ⟨a, cap, hv, hcap⟩ := ownsRow_zero h.used
  by_cases h0 : 0 ≤ i
  · by_cases h1 : i < (A.u.length : Int)
    · obtain ⟨g, cap', hv', _, _, hcell⟩ := ownsRow_cells h.used (by omega)
      rw [hv] at hv'
      injection hv' with e1 e2 e3
      subst e1
      obtain ⟨k, rfl⟩ : ∃ k : Nat, i = k := ⟨i.toNat, by omega⟩
      have hk := hcell k (.bool (A.u.getD k false)) (by
        have : k < A.u.length := by omega
        simp [List.getElem?_eq_getElem this, List.getD_eq_getElem?_getD])
      clear hcell
      rw [hv] at hc
      generalize hL : A.u.getD k false = B at *
      have hB : hasB A.u k = B := by simp [hasB, ← hL]
      rw [hB]
      clear h hv hB hL e2 e3
      generalize A.u.length = len at *
      go_enter Tryz.func88, Tryz.ntmps88
      go_wp2
      go_ret
      exact ⟨rfl, rfl⟩
    · have hB : hasB A.u i = false := by
        unfold hasB
        rw [List.getD_eq_getElem?_getD, List.getElem?_eq_none (by omega)]; simp
      rw [hB]
      rw [hv] at hc
      clear h hv hB
      generalize A.u.length = len at *
      go_enter Tryz.func88, Tryz.ntmps88
      go_wp2
      go_ret
      exact ⟨rfl, rfl⟩
  · have hB : hasB A.u i = false := by unfold hasB; simp; omega
    rw [hB]
    clear h hv hB hc
    go_enter Tryz.func88, Tryz.ntmps88
    go_wp2
    go_ret
    exact ⟨rfl, rfl⟩

def foot (b : Nat) (vl vu : Value) : List Nat := b :: (vl.ownBlock.toList ++ vu.ownBlock.toList)
def putAt {α : Type} (l : List α) (i : Nat) (x : α) : List α := if i < l.length then l.set i x else l ++ [x]

theorem ownsRow_keep {M : List Nat} {w w' : World} {base : Nat} {e : TypeId} {size : Nat} {v : Value} {n : Nat} {xs : List Value} (ho : w.ownsRow base e size v n xs) (k : Keeps M w w') (hm : ∀ x ∈ v.ownBlock.toList, x ∉ M) : w'.ownsRow base e size v n xs := by
  refine ⟨ho.1, ?_⟩
  rcases ho.2 with h1 | ⟨g, cap, cur, rfl, hb, hg, r⟩
  · exact .inl h1
  · exact .inr ⟨g, cap, cur, rfl, hb, (k.block g (Array.getElem?_eq_some_iff.1 hg).1 (hm g (by simp [Value.ownBlock]))).trans hg, r⟩
theorem ownsRow_frozen {w : World} {base : Nat} {e : TypeId} {size : Nat} {g n cap n' : Nat} {xs : List Value} (h : w.ownsRow base e size (.slice (some ⟨g, 0, none⟩) n cap) n' xs) (o : Nat) : w.frozen? ⟨g, o, none⟩ = false := by
  rcases h.2 with ⟨h, _⟩ | ⟨g', cap', cur, h, _, hg, _⟩
  · simp at h
  · injection h with h _ _
    injection h with h
    injection h with h
    subst h
    simp [World.frozen?, hg]
theorem ownsRow_ne {w : World} {e e' : TypeId} {s s' g n c n' c' m m' : Nat} {xs xs' : List Value} (h : w.ownsRow 0 e s (.slice (some ⟨g, 0, none⟩) n c) m xs) (h' : w.ownsRow 0 e' s' (.slice (some ⟨g, 0, none⟩) n' c') m' xs') (he : e ≠ e') : False := by
  rcases h.2 with ⟨h, _⟩ | ⟨g1, cap', cur, h, _, hg, _⟩
  · simp at h
  · rcases h'.2 with ⟨h', _⟩ | ⟨g1', cap'', cur', h', _, hg', _⟩
    · simp at h'
    · simp at h h'
      rw [← h.1] at hg; rw [← h'.1, hg] at hg'
      injection hg' with hg'
      injection hg' with _ h3 _
      exact he h3
theorem ownsRow_ne_blk {w : World} {e t : TypeId} {s g n c m : Nat} {xs : List Value} {cs : Array Value} (h : w.ownsRow 0 e s (.slice (some ⟨g, 0, none⟩) n c) m xs) (h' : Blk w g cs t) (he : e ≠ t) : False := by
  rcases h.2 with ⟨h, _⟩ | ⟨g1, cap', cur, h, _, hg, _⟩
  · simp at h
  · simp at h
    unfold Blk at h'
    rw [← h.1, h'] at hg
    injection hg with hg
    injection hg with _ h3 _
    exact he h3.symm
/-- A store into another block. -/
theorem ownsRow_le {w : World} {base base' : Nat} {e : TypeId} {size : Nat} {v : Value} {n : Nat} {xs : List Value} (ho : w.ownsRow base e size v n xs) (hb : base' ≤ base) : w.ownsRow base' e size v n xs := by
  refine ⟨ho.1, ?_⟩
  rcases ho.2 with h1 | ⟨g, cap, cur, rfl, hb', hg, r⟩
  · exact .inl h1
  · exact .inr ⟨g, cap, cur, rfl, Nat.le_trans hb hb', hg, r⟩
theorem ownsRow_setOther {w : World} {base : Nat} {e : TypeId} {size : Nat} {v : Value} {n : Nat} {xs : List Value} (ho : w.ownsRow base e size v n xs) {p : Addr} (hp : v.ownBlock ≠ some p.block) (x : Value) : (w.setCell p x).ownsRow base e size v n xs := by
  refine ⟨ho.1, ?_⟩
  rcases ho.2 with h1 | ⟨g, cap, cur, rfl, hb, hg, r⟩
  · exact .inl h1
  · exact .inr ⟨g, cap, cur, rfl, hb, (Below.heap_setCell _ _ _ _ (by simpa [Value.ownBlock] using hp)).trans hg, r⟩
/-- A store into one of its own places. -/
theorem ownsRow_set {w : World} {e : TypeId} {size : Nat} {g n cap : Nat} {xs : List Value} (ho : w.ownsRow 0 e size (.slice (some ⟨g, 0, none⟩) n cap) n xs) (o : Nat) (x : Value) (hx : o < xs.length) : (w.setCell ⟨g, o, none⟩ x).ownsRow 0 e size (.slice (some ⟨g, 0, none⟩) n cap) n (xs.set o x) := by
  refine ⟨by simpa using ho.1, ?_⟩
  rcases ho.2 with ⟨h, _⟩ | ⟨g', cap', cur, h, _, hg, h1, h2, h3, h4⟩
  · simp at h
  · simp at h
    obtain ⟨rfl, rfl⟩ := h
    refine .inr ⟨g, cap, cur.setIfInBounds o x, rfl, Nat.zero_le _, ?_, h1, h2, by simpa using h3, ?_⟩
    · simp [World.setCell, Array.getElem?_modify, hg]
    · subst h4
      rw [List.length_take] at hx
      simp only [Array.toList_setIfInBounds]
      rw [List.take_set]

theorem flat_at {l : List (Int × Int × Value)} {m : Nat} {k n : Int} {v : Value} (h : l[m]? = some (k, n, v)) : (flat l)[m * 3]? = some (.int .i64 k) ∧ (flat l)[m * 3 + 1]? = some (.int .i64 n) ∧ (flat l)[m * 3 + 2]? = some v := by
  induction l generalizing m with
  | nil => simp at h
  | cons a l ih =>
    obtain ⟨k1, n1, v1⟩ := a
    cases m with
    | zero => simp at h; obtain ⟨rfl, rfl, rfl⟩ := h; simp [flat]
    | succ m =>
      have := ih (m := m) (by simpa using h)
      have e : (m + 1) * 3 = m * 3 + 3 := by omega
      rw [e]
      simpa [flat, Nat.add_right_comm] using this
theorem flat_set {l : List (Int × Int × Value)} {m : Nat} {k n : Int} {v : Value} (h : m < l.length) : flat (l.set m (k, n, v)) = (((flat l).set (m * 3) (.int .i64 k)).set (m * 3 + 1) (.int .i64 n)).set (m * 3 + 2) v := by
  induction l generalizing m with
  | nil => simp at h
  | cons a l ih =>
    obtain ⟨k1, n1, v1⟩ := a
    cases m with
    | zero => simp [flat]
    | succ m =>
      have e : (m + 1) * 3 = m * 3 + 3 := by omega
      rw [e]
      have := ih (m := m) (by simpa using h)
      simp [flat, this, Nat.add_right_comm]

/-- The cells at a place that is there. -/
theorem ArAt.at_ {w : World} {b : Nat} {vl vu : Value} {A : Ar} (h : ArAt w b vl vu A) (hlu : A.l.length = A.u.length) {m : Nat} (hm : m < A.u.length) :
    ∃ gl cl gu cu k n v, vl = .slice (some ⟨gl, 0, none⟩) A.u.length cl ∧ A.u.length ≤ cl ∧ vu = .slice (some ⟨gu, 0, none⟩) A.u.length cu ∧ A.u.length ≤ cu ∧ cl ≤ maxLen ∧ cu ≤ maxLen ∧ A.l[m]? = some (k, n, v) ∧
      w.cell? ⟨gl, m * 3, none⟩ = some (.int .i64 k) ∧ w.cell? ⟨gl, m * 3 + 1, none⟩ = some (.int .i64 n) ∧ w.cell? ⟨gl, m * 3 + 2, none⟩ = some v ∧ w.cell? ⟨gu, m, none⟩ = some (.bool (A.u.getD m false)) ∧
      (∀ o, w.frozen? ⟨gl, o, none⟩ = false) ∧ (∀ o, w.frozen? ⟨gu, o, none⟩ = false) ∧ gl ≠ gu ∧ gl ≠ b ∧ gu ≠ b := by
  obtain ⟨gu, cu, rfl, hcu1, hcu2, hcu3⟩ := ownsRow_cells h.used (by omega)
  obtain ⟨gl, cl, rfl, hcl1, hcl2, hcl3⟩ := ownsRow_cells h.own (by omega)
  obtain ⟨⟨k0, n0, v0⟩, hx⟩ : ∃ x, A.l[m]? = some x := ⟨_, List.getElem?_eq_getElem (by omega)⟩
  have hbool : (A.u.map Value.bool)[m]? = some (.bool (A.u.getD m false)) := by simp [List.getD_eq_getElem?_getD, List.getElem?_eq_getElem hm]
  refine ⟨gl, cl, gu, cu, k0, n0, v0, by rw [hlu], by omega, rfl, hcu1, hcl2, hcu2, hx, hcl3 _ _ (flat_at hx).1, hcl3 _ _ (flat_at hx).2.1, hcl3 _ _ (flat_at hx).2.2, hcu3 m _ hbool, ownsRow_frozen h.own, ownsRow_frozen h.used, ?_, ?_, ?_⟩
  all_goals rintro rfl
  · exact ownsRow_ne h.own h.used (by decide)
  · exact ownsRow_ne_blk h.own h.blk (by decide)
  · exact ownsRow_ne_blk h.used h.blk (by decide)

theorem ArAt.keep {M : List Nat} {w w' : World} {b : Nat} {vl vu : Value} {A : Ar} (h : ArAt w b vl vu A) (k : Keeps M w w') (hM : ∀ x ∈ foot b vl vu, x ∉ M) : ArAt w' b vl vu A :=
  ⟨h.blk.keep k (hM b (by simp [foot])), ownsRow_keep h.own k (fun x hx => hM x (by simp only [foot, List.mem_cons, List.mem_append]; exact .inr (.inl hx))), ownsRow_keep h.used k (fun x hx => hM x (by simp only [foot, List.mem_cons, List.mem_append]; exact .inr (.inr hx)))⟩
theorem ArAt.keep0 {w w' : World} {b : Nat} {vl vu : Value} {A : Ar} (h : ArAt w b vl vu A) (k : Keeps [] w w') : ArAt w' b vl vu A := h.keep k (fun x _ => by simp)

theorem ArAt.drew {w : World} {b : Nat} {vl vu : Value} {A : Ar} (h : ArAt w b vl vu A) : ArAt w.drew b vl vu A := ⟨h.blk, h.own, h.used⟩
theorem own_ne {w : World} {b : Nat} {cs : Array Value} {t e : TypeId} {v : Value} {size n : Nat} {xs : List Value} (hb : Blk w b cs t) (h : w.ownsRow 0 e size v n xs) (he : e ≠ t) : v.ownBlock ≠ some b := by
  rcases h.2 with ⟨rfl, _⟩ | ⟨g, cap, cur, rfl, _, hg, _⟩
  · simp [Value.ownBlock]
  · simp only [Value.ownBlock, ne_eq, Option.some.injEq]
    rintro rfl
    unfold Blk at hb
    rw [hb] at hg
    injection hg with hg
    injection hg with _ h3 _
    exact he h3.symm
theorem own_ne_own {w : World} {e e' : TypeId} {s s' n n' : Nat} {v v' : Value} {xs xs' : List Value} (h : w.ownsRow 0 e s v n xs) (h' : w.ownsRow 0 e' s' v' n' xs') (he : e ≠ e') : v.ownBlock = none ∨ v.ownBlock ≠ v'.ownBlock := by
  rcases h.2 with ⟨rfl, _⟩ | ⟨g, cap, cur, rfl, _, hg, _⟩
  · exact .inl rfl
  · right
    rcases h'.2 with ⟨rfl, _⟩ | ⟨g', cap', cur', rfl, _, hg', _⟩
    · simp [Value.ownBlock]
    · simp only [Value.ownBlock, ne_eq, Option.some.injEq]
      rintro rfl
      rw [hg] at hg'
      injection hg' with hg'
      injection hg' with _ h3 _
      exact he h3
theorem ArAt.lt {w : World} {b : Nat} {vl vu : Value} {A : Ar} (h : ArAt w b vl vu A) : ∀ x ∈ foot b vl vu, x < w.heap.size := by
  intro x hx
  simp only [foot, List.mem_cons, List.mem_append, Option.mem_toList, Option.mem_def] at hx
  rcases hx with rfl | hx | hx
  · exact h.blk.lt
  · exact (h.own.lt x hx).2
  · exact (h.used.lt x hx).2
/-- Its struct's cells, one by one. -/
theorem ArAt.setLow {w : World} {b : Nat} {vl vu : Value} {A : Ar} (h : ArAt w b vl vu A) (m : Nat) {x : Int} (hx : x = m) : ArAt (w.setCell ⟨b, 3, none⟩ (.int .i64 x)) b vl vu { A with low := m } := hx ▸
  ⟨by simpa using h.blk.setCell 3 (.int .i64 m), ownsRow_setOther h.own (own_ne h.blk h.own (by decide)) _, ownsRow_setOther h.used (own_ne h.blk h.used (by decide)) _⟩
theorem ArAt.setN {w : World} {b : Nat} {vl vu : Value} {A : Ar} (h : ArAt w b vl vu A) (m : Nat) {x : Int} (hx : x = m) : ArAt (w.setCell ⟨b, 2, none⟩ (.int .i64 x)) b vl vu { A with n := m } := hx ▸
  ⟨by simpa using h.blk.setCell 2 (.int .i64 m), ownsRow_setOther h.own (own_ne h.blk h.own (by decide)) _, ownsRow_setOther h.used (own_ne h.blk h.used (by decide)) _⟩
theorem ArAt.setUsed {w : World} {b gu len cu : Nat} {vl : Value} {A : Ar} (h : ArAt w b vl (.slice (some ⟨gu, 0, none⟩) len cu) A) (m : Nat) (hm : m < A.u.length) (x : Bool) : ArAt (w.setCell ⟨gu, m, none⟩ (.bool x)) b vl (.slice (some ⟨gu, 0, none⟩) len cu) { A with u := A.u.set m x } := by
  have hn : len = A.u.length := by
    obtain ⟨a, c, e, _⟩ := ownsRow_zero h.used
    injection e
  subst hn
  refine ⟨h.blk.setOther (p := ⟨gu, m, none⟩) ?_ _, ownsRow_setOther h.own ?_ _, ?_⟩
  · rintro rfl; exact ownsRow_ne_blk h.used h.blk (by decide)
  · intro hh
    rcases h.own.2 with ⟨rfl, _⟩ | ⟨g, cap, cur, rfl, _, hg, _⟩
    · simp [Value.ownBlock] at hh
    · simp only [Value.ownBlock, Option.some.injEq] at hh
      subst hh
      exact ownsRow_ne h.own h.used (by decide)
  · have := ownsRow_set h.used m (.bool x) (by simpa using hm)
    simpa [List.map_set] using this
theorem ArAt.setSlot {w : World} {b gl len cl : Nat} {vu : Value} {A : Ar} (h : ArAt w b (.slice (some ⟨gl, 0, none⟩) len cl) vu A) (m : Nat) (hm : m < A.l.length) (k n : Int) (v : Value) :
    ArAt (((w.setCell ⟨gl, m * 3, none⟩ (.int .i64 k)).setCell ⟨gl, m * 3 + 1, none⟩ (.int .i64 n)).setCell ⟨gl, m * 3 + 2, none⟩ v) b (.slice (some ⟨gl, 0, none⟩) len cl) vu { A with l := A.l.set m (k, n, v) } := by
  have hn : len = A.l.length := by
    obtain ⟨a, c, e, _⟩ := ownsRow_zero h.own
    injection e
  subst hn
  have hb : b ≠ gl := by rintro rfl; exact ownsRow_ne_blk h.own h.blk (by decide)
  have hu : vu.ownBlock ≠ some gl := by
    intro hh
    rcases h.used.2 with ⟨rfl, _⟩ | ⟨g, cap, cur, rfl, _, hg, _⟩
    · simp [Value.ownBlock] at hh
    · simp only [Value.ownBlock, Option.some.injEq] at hh
      subst hh
      exact ownsRow_ne h.used h.own (by decide)
  have hl : (flat A.l).length = A.l.length * 3 := flat_length _
  refine ⟨((h.blk.setOther (p := ⟨gl, _, none⟩) hb _).setOther (p := ⟨gl, _, none⟩) hb _).setOther (p := ⟨gl, _, none⟩) hb _, ?_, ownsRow_setOther (p := ⟨gl, _, none⟩) (ownsRow_setOther (p := ⟨gl, _, none⟩) (ownsRow_setOther (p := ⟨gl, _, none⟩) h.used hu _) hu _) hu _⟩
  have h1 := ownsRow_set h.own (m * 3) (.int .i64 k) (by omega)
  have h2 := ownsRow_set h1 (m * 3 + 1) (.int .i64 n) (by simp; omega)
  have h3 := ownsRow_set h2 (m * 3 + 2) v (by simp; omega)
  simp only [List.length_set]
  rw [flat_set hm]
  exact h3

end Go.Proofs.YtokbjopmfcggdaaGreat
