/- build.Calls. -/
import Derived.Test.YtokbjopmfcggdaaCompact
import Derived.Sort.OwnSortedInts
namespace Go.Proofs.Ytokbjopmfcggdaa
open Go.RowKit
set_option linter.unusedVariables false
set_option linter.unusedSimpArgs false
set_option linter.unnecessarySimpa false

theorem ownsRow_take1 {w : World} {base g n cap m : Nat} {e : TypeId} {xs : List Value} (h : w.ownsRow base e 1 (.slice (some ⟨g, 0, none⟩) n cap) n xs) (hm : m ≤ n) : w.ownsRow base e 1 (.slice (some ⟨g, 0, none⟩) m cap) m (xs.take m) := by
  have hl : xs.length = n := by simpa using h.1
  refine ⟨by simp; omega, ?_⟩
  rcases h.2 with ⟨h0, _⟩ | ⟨g', cap', cur, hv, hb, hg, h1, h2, h3, h4⟩
  · cases h0
  · cases hv
    refine .inr ⟨g, cap, cur, rfl, hb, hg, by omega, h2, h3, ?_⟩
    rw [← h4, List.take_take]
    congr 1
    omega
theorem own_holds {w : World} {base g cap : Nat} {e : TypeId} {l : List Int} (h : w.ownsRow base e 1 (.slice (some ⟨g, 0, none⟩) l.length cap) l.length (ints l)) : Go.Sort.Holds (Value.int .i64) w g 0 l.toArray ∧ ∃ cur, w.heap[g]? = some (.cells cur e (0, 0)) ∧ l.length ≤ cap ∧ cap ≤ maxLen ∧ cur.size = cap * 1 ∧ base ≤ g := by
  rcases h.2 with ⟨h0, _⟩ | ⟨g', cap', cur, hv, hb, hg, h1, h2, h3, h4⟩
  · cases h0
  · cases hv
    exact ⟨holds_of_blockI hg (by simpa [ints] using h4), cur, hg, h1, h2, h3, hb⟩

def CallsFPost (w : World) (l : List Int) (e : Ending) (w' : World) : Prop :=
  ∃ v, e = .returned v ∧ w'.ownsRow w.heap.size 3 1 v (sortC l).length (ints (sortC l)) ∧ Keeps [] w w'

theorem sort_own {w : World} {base g cap : Nat} {l : List Int} (h : w.ownsRow base 3 1 (.slice (some ⟨g, 0, none⟩) l.length cap) l.length (ints l)) (hl : l.length ≤ 1048576) :
    Calls Try.prog 35 #[.slice (some ⟨g, 0, none⟩) l.length cap] w fun e w' => e = .returned (.tuple #[]) ∧ w'.ownsRow base 3 1 (.slice (some ⟨g, 0, none⟩) l.length cap) l.length (ints (l.mergeSort fun x y => decide (x ≤ y))) ∧ Keeps [g] w w' := by
  obtain ⟨hH, cur, hg, h1, h2, h3, hb⟩ := own_holds h
  refine (Any.slices_Sort_int Try.laysSort g 0 cap l w hH (Array.getElem?_eq_some_iff.1 hg).1 (by omega)).mono ?_
  rintro e w' ⟨rfl, n, os, rfl⟩
  exact ⟨rfl, ownsRow_sortedI (by simp) hb hg h1 h2 h3, (Keeps.refl _ _).grown (grownBy_sortedI _) (fun k hk => .inl (by simpa using hk.symm))⟩
theorem compact_own {w : World} {base g cap : Nat} {l : List Int} (h : w.ownsRow base 3 1 (.slice (some ⟨g, 0, none⟩) l.length cap) l.length (ints l)) (hl : l.length ≤ 1048576) :
    Calls Try.prog 36 #[.slice (some ⟨g, 0, none⟩) l.length cap] w fun e w' => e = .returned (.slice (some ⟨g, 0, none⟩) (Lib.compact l).length cap) ∧ w'.ownsRow base 3 1 (.slice (some ⟨g, 0, none⟩) (Lib.compact l).length cap) (Lib.compact l).length (ints (Lib.compact l)) ∧ Keeps [g] w w' := by
  obtain ⟨hH, cur, hg, h1, h2, h3, hb⟩ := own_holds h
  refine (Any.slices_Compact_int Try.laysCompact g 0 cap l w hH (by omega) h1).mono ?_
  rintro e w' ⟨rfl, q, rfl⟩
  have hle : (Lib.compact l).length ≤ l.length := by
    have h4 : (Lib.compactUpTo l.toArray l.length).length ≤ l.length := by
      unfold Lib.compactUpTo
      simp only [List.length_map]
      exact Nat.le_trans (List.length_filter_le _ _) (by simp)
    exact h4
  have h5 := ownsRow_sortedI (n := q) (os := #[]) (ss := l) (ts := Lib.compact l ++ List.replicate (l.length - (Lib.compact l).length) 0) (by simp; omega) hb hg h1 h2 h3
  rw [Go.Sort.grow_empty] at h5
  have h6 := grownBy_sortedI (w := w) (g := g) (n := q) (os := #[]) (Lib.compact l ++ List.replicate (l.length - (Lib.compact l).length) 0).toArray
  rw [Go.Sort.grow_empty] at h6
  refine ⟨rfl, ?_, (Keeps.refl _ _).grown h6 (fun k hk => .inl (by simpa using hk.symm))⟩
  have h7 := ownsRow_take1 h5 hle
  simpa [ints] using h7

theorem sort_none (a : Option Addr) (cap : Nat) (w : World) : Calls Try.prog 35 #[.slice a 0 cap] w fun e w' => e = .returned (.tuple #[]) ∧ w' = w :=
  calls_of_every_depth fun D => AnyS.slices_Sort_int_none_in Try.laysSort D a cap w
theorem compact_none (a : Option Addr) (cap : Nat) (w : World) : Calls Try.prog 36 #[.slice a 0 cap] w fun e w' => e = .returned (.slice a 0 cap) ∧ w' = w :=
  Any.slices_Compact_int_empty Try.laysCompact a cap w

set_option maxHeartbeats 1000000 in
theorem build_Calls {S : Nat → Prop} {w : World} {c : Core} {v : Value} (hc : csize c ≤ 500000) (h : CoreAt S w c v) (hS : ∀ b, S b → b < w.heap.size) : Calls Try.prog 12 #[v] w (CallsFPost w (callsC c)) := by
  obtain ⟨base, cap, rfl, hc1, hc2⟩ := h.form
  have hC := fun o : Obj => build_calls 500000 S (w.alloc o) c _ w.heap.size (.slice none 0 0) [] hc (by omega) (by simp; omega) (CoreAt.keep (fun b hb => Below.heap_alloc _ _ _ (hS b hb)) _ _ h) hS (by simp) (World.ownsRow_nil _ _ _ _)
  have HC := Lib.hid hC
  have hlen := callsC_len c
  clear hC h hS
  generalize c.kind = k at *
  generalize c.n = n at *
  generalize c.args.length = M at *
  unfold maxLen at hc2
  go_enter Try.func12, Try.ntmps12
  go_wp2_with fail
  refine (HC.out _).mono ?_
  rintro e w1 ⟨v', rfl, ho, hk, hb⟩
  rw [List.nil_append] at ho
  have hkw : Keeps [] w w1 := ((Keeps.refl _ _).alloc _).trans0 hk
  generalize callsC c = l at *
  cases l with
  | nil =>
    obtain ⟨a, cp, rfl, _⟩ := ownsRow_zero ho
    have H1 := Lib.hid (And.intro ho hkw)
    clear ho hkw hk hb
    go_wp2_with fail
    refine (sort_none a cp _).mono ?_
    rintro e w2 ⟨rfl, rfl⟩
    go_wp2_with fail
    refine (compact_none a cp _).mono ?_
    rintro e w2 ⟨rfl, rfl⟩
    go_wp2
    go_ret
    have h0 : sortC [] = [] := by simp [sortC, Lib.compact, Lib.compactUpTo]
    exact ⟨_, rfl, by rw [h0]; exact H1.out.1, H1.out.2⟩
  | cons x r =>
    obtain ⟨g, cp, rfl, _, _, _⟩ := ownsRow_cells ho (by simp)
    have hg := (ho.lt g rfl).1
    have hso := sort_own ho (by omega)
    have H1 := Lib.hid (And.intro hso hkw)
    have HS : Hid (sortC (x :: r) = Lib.compact ((x :: r).mergeSort fun x y => decide (x ≤ y))) := Lib.hid rfl
    have hml : ((x :: r).mergeSort fun x y => decide (x ≤ y)).length = (x :: r).length := by simp
    clear ho hkw hk hb hso
    generalize hms : ((x :: r).mergeSort fun x y => decide (x ≤ y)) = ms at *
    clear hms
    generalize hL : (x :: r).length = L at *
    have HL := Lib.hid hL
    clear hL
    go_wp2_with fail
    refine H1.out.1.mono ?_
    rintro e w2 ⟨rfl, ho2, hk2⟩
    rw [← hml] at ho2
    have hco := compact_own ho2 (by omega)
    rw [hml] at hco
    have H2 := Lib.hid (And.intro hco hk2)
    clear ho2 hk2 hco
    go_wp2_with fail
    refine H2.out.1.mono ?_
    rintro e w3 ⟨rfl, ho3, hk3⟩
    have H3 := Lib.hid (And.intro ho3 hk3)
    clear ho3 hk3
    generalize hcl : (Lib.compact ms).length = CL at *
    have HCL := Lib.hid hcl
    clear hcl
    go_wp2
    go_ret
    have hsz := H1.out.2.size
    refine ⟨_, rfl, by rw [HS.out, HCL.out]; exact H3.out.1, (H1.out.2.trans H2.out.2 (fun z hz => ?_)).trans H3.out.2 (fun z hz => ?_)⟩
    · simp at hz; subst hz; exact .inr hg
    · simp at hz; subst hz; exact .inr hg

end Go.Proofs.Ytokbjopmfcggdaa
