/- The rest of the arena's methods; slices.Clone at []int; node.own. -/
import Derived.Test.YtokbjopmfcggdaaGreatPut
namespace Go.Proofs.YtokbjopmfcggdaaGreat
open Go.RowKit
set_option linter.unusedVariables false
set_option linter.unusedSimpArgs false
set_option linter.unnecessarySimpa false

/-! ### arena.New -/
def clampMost (n : Int) : Nat := (min (max n 0) 65536).toNat
def NewPost (w : World) (n : Int) (e : Ending) (w' : World) : Prop :=
  ∃ b, e = .returned (.pointer (some ⟨b, 0, none⟩)) ∧ b = w.heap.size ∧ ArAt w' b (.slice none 0 0) (.slice none 0 0) ⟨[], [], 0, 0, clampMost n⟩ ∧ Keeps [] w w'
theorem arena_empty (w : World) (m : Nat) {x : Int} (hx : x = m) : ArAt (w.alloc (.cells #[.slice none 0 0, .slice none 0 0, .int .i64 0, .int .i64 0, .int .i64 x] 138)) w.heap.size (.slice none 0 0) (.slice none 0 0) ⟨[], [], 0, 0, m⟩ := by
  subst hx
  exact ⟨Blk.new _ _ _, World.ownsRow_nil _ _ _ _, World.ownsRow_nil _ _ _ _⟩
theorem arena_new (n : Int) (w : World) : Calls Tryz.prog 60 #[.int .i64 n] w (NewPost w n) := by
  go_enter Tryz.func60, Tryz.ntmps60
  go_wp2
  all_goals go_ret
  all_goals exact ⟨_, rfl, rfl, arena_empty w _ (by unfold clampMost; omega), (Keeps.refl _ _).alloc _⟩
theorem clamp_ok (n : Int) : (⟨[], [], 0, 0, clampMost n⟩ : Ar).Ok := ⟨rfl, rfl, fun i hi => by simp at hi, Nat.le_refl _, Nat.zero_le _, by show clampMost n ≤ 65536; unfold clampMost; omega, fun x hx => by simp at hx⟩

/-! ### slices.Clone at []int -/
def ClonePost (w : World) (n : Nat) (xs : List Value) (e : Ending) (w' : World) : Prop :=
  ∃ v', e = .returned v' ∧ w'.ownsRow w.heap.size 3 1 v' n xs ∧ Keeps [] w w'
theorem clone_nil (w : World) : Calls Tryz.prog 89 #[.slice none 0 0] w (ClonePost w 0 []) := by
  have hq := @Lib.run_eql_slice_nil
  go_enter Tryz.func89, Tryz.ntmps89
  go_wp2
  go_ret
  exact ⟨_, rfl, World.ownsRow_nil _ _ _ _, Keeps.refl _ _⟩

theorem row_cells {S : Nat → Prop} {w : World} {size : Nat} {a : Addr} {n c : Nat} {xs : List Value} (h : RowAt S w size (.slice (some a) n c) n xs) : ∀ (j : Nat) (u : Value), xs[j]? = some u → w.cell? (a.add j) = some u := by
  intro j u hu
  by_cases hn : 0 < n
  · obtain ⟨g, off, cap, hv, _, _, _, _, hc⟩ := h.cells hn
    injection hv with hv
    injection hv with hv
    subst hv
    have hadd : (⟨g, off, none⟩ : Addr).add j = ⟨g, off + j, none⟩ := by unfold Addr.add; split <;> simp_all
    rw [hadd]; exact hc j u hu
  · have h1 := h.1
    have : xs = [] := List.eq_nil_of_length_eq_zero (by rw [h1]; rw [show n = 0 by omega]; simp)
    subst this; simp at hu

theorem clone_ints {S : Nat → Prop} {w : World} {v : Value} {n : Nat} {xs : List Value} (h : RowAt S w 1 v n xs) (hn : n ≤ 1000000) (h1 : ∀ u ∈ xs, u.oneCell' = true) : Calls Tryz.prog 89 #[v] w (ClonePost w n xs) := by
  obtain ⟨base, cap, rfl, hle, hcm, hbase⟩ := h.form
  cases base with
  | none =>
    obtain rfl := hbase rfl
    obtain rfl : n = 0 := by omega
    have : xs = [] := List.eq_nil_of_length_eq_zero (by simpa using h.1)
    subst this
    exact clone_nil w
  | some a =>
    have hq := @Lib.run_eql_slice_nil
    obtain ⟨i3, hi3, hz3, hs3, hy3⟩ := info_parts Tryz.info3
    have hl : xs.length = n * 1 := h.1
    have hcells := row_cells h
    have HC : Hid (∀ (j : Nat) (u : Value), xs[j]? = some u → w.cell? (a.add j) = some u) := hcells
    have HL : Hid (xs.length = n * 1) := hl
    clear hcells hl h hbase
    go_enter Tryz.func89, Tryz.ntmps89
    go_wp2_with (at_builtin; refine wpList_append_own _ rfl _ _ 71 rfl w.heap.size 3 i3 (.int .i64 0) 1 8 Tryz.underlying71 hi3 hz3 hs3 hy3 rfl (by decide) _ 0 [] rfl ?_ a n cap xs rfl HL.out ?_ h1 ?_ ?_ ?_ ?_)
    · exact World.ownsRow_made w #[] 0 (Nat.le_refl _) (by unfold maxLen; omega) rfl
    · intro j u hu
      exact cell_some_alloc (HC.out j u hu)
    · unfold maxLen; omega
    · omega
    · simp
    · intro v' w' ho hg _
      go_wp2
      go_ret
      refine ⟨_, rfl, by simpa using ho, ((Keeps.refl [] w).alloc _).grown hg (fun k hk => ?_)⟩
      simp [Value.ownBlock] at hk
      omega

/-! ### node.own -/
def NodeVal (k n : Int) (v : Value) : Value := .agg #[.int .i64 k, .int .i64 n, v]
def OwnPost (w : World) (k n : Int) (m : Nat) (xs : List Value) (e : Ending) (w' : World) : Prop :=
  ∃ v', e = .returned (.agg #[.int .i64 k, .int .i64 n, v']) ∧ w'.ownsRow w.heap.size 3 1 v' m xs ∧ Keeps [] w w'
theorem node_own {S : Nat → Prop} {w : World} {k n : Int} {v : Value} {m : Nat} {xs : List Value} (h : RowAt S w 1 v m xs) (hS : ∀ b, S b → b < w.heap.size) (hn : m ≤ 1000000) (h1 : ∀ u ∈ xs, u.oneCell' = true) : Calls Tryz.prog 70 #[.agg #[.int .i64 k, .int .i64 n, v]] w (OwnPost w k n m xs) := by
  obtain ⟨base, cap, rfl, hle, hcm, hbase⟩ := h.form
  go_enter Tryz.func70, Tryz.ntmps70
  go_wp2_with fail
  have hB : ∀ (o o' : Obj), RowAt S ((w.alloc o).alloc o') 1 (.slice base m cap) m xs := fun o o' => h.keep (fun b hb => by
    have := hS b hb
    rw [Below.heap_alloc _ _ _ (by simp; omega), Below.heap_alloc _ _ _ this])
  refine (clone_ints (hB _ _) hn h1).mono ?_
  rintro e w1 ⟨v', rfl, ho, hk⟩
  have b1 := (Blk.alloc (Blk.new w #[.int .i64 k, .int .i64 n, .slice base m cap] 79) _).keep hk (by simp)
  have b2 := (Blk.new (w.alloc (.cells #[.int .i64 k, .int .i64 n, .slice base m cap] 79)) #[.int .i64 0, .int .i64 0, .slice none 0 0] 79).keep hk (by simp)
  simp only [World.size_alloc] at b2 ho
  have c0 := b1.cell 0
  have c1 := b1.cell 1
  have c2 := b1.cell 2
  have f2 := b1.frozen 2
  have d0 := b2.cell 0
  have d1 := b2.cell 1
  have d2 := b2.cell 2
  have e0 := b2.frozen 0
  have e1 := b2.frozen 1
  have e2 := b2.frozen 2
  obtain ⟨va, vc, rfl, _⟩ := ownsRow_zero ho
  have HO := Lib.hid (And.intro ho (And.intro hk (And.intro b1 b2)))
  clear hB h b1 b2 ho hk
  go_wp2
  refine bodyPost_ret (v := .agg #[.int .i64 k, .int .i64 n, .slice va m vc]) (by simp [results, Tryz.results70, go_sem, *]) rfl ?_
  obtain ⟨ho, hk, b1, b2⟩ := HO.out
  have hk2 : Keeps [] w w1 := (((Keeps.refl [] w).alloc _).alloc _).trans0 hk
  have nb : ∀ p : Nat, p = w.heap.size ∨ p = w.heap.size + 1 → (Value.slice va m vc).ownBlock ≠ some p := by
    intro p hp hh
    have := (ho.lt p hh).1
    omega
  refine ⟨_, rfl, ?_, ?_⟩
  · exact ownsRow_le (ownsRow_setOther (p := ⟨_, _, none⟩) (ownsRow_setOther (p := ⟨_, _, none⟩) (ownsRow_setOther (p := ⟨_, _, none⟩) (ownsRow_setOther (p := ⟨_, _, none⟩) ho (nb _ (.inl rfl)) _) (nb _ (.inr rfl)) _) (nb _ (.inr rfl)) _) (nb _ (.inr rfl)) _) (by omega)
  · exact (((hk2.setCell (p := ⟨_, _, none⟩) (.inr (Nat.le_refl _)) _).setCell (p := ⟨_, _, none⟩) (.inr (Nat.le_succ _)) _).setCell (p := ⟨_, _, none⟩) (.inr (Nat.le_succ _)) _).setCell (p := ⟨_, _, none⟩) (.inr (Nat.le_succ _)) _

end Go.Proofs.YtokbjopmfcggdaaGreat
