/- What slices.Compact leaves of a sorted list. -/
import Derived.Test.YtokbjopmfcggdaaCalls
namespace Go.Proofs.Ytokbjopmfcggdaa
open Go.RowKit
set_option linter.unusedVariables false
set_option linter.unusedSimpArgs false
set_option linter.unnecessarySimpa false

theorem compact_inv (d : Array Int) (hs : ∀ i j, i ≤ j → j < d.size → d[i]! ≤ d[j]!) : ∀ m, m ≤ d.size → (Lib.compactUpTo d m).Pairwise (· < ·) ∧ (∀ x ∈ Lib.compactUpTo d m, ∃ j, j < m ∧ x = d[j]!) ∧ ∀ j, j < m → d[j]! ∈ Lib.compactUpTo d m := by
  intro m
  induction m with
  | zero => intro _; simp [Lib.compactUpTo]
  | succ m ih =>
    intro hm
    obtain ⟨h1, h2, h3⟩ := ih (by omega)
    rw [Lib.compactUpTo_succ]
    by_cases hk : Lib.keeps d m = true
    · rw [if_pos hk]
      refine ⟨?_, fun x hx => ?_, fun j hj => ?_⟩
      · rw [List.pairwise_append]
        refine ⟨h1, by simp, fun x hx y hy => ?_⟩
        obtain rfl : y = d[m]! := by simpa using hy
        obtain ⟨j, hj, rfl⟩ := h2 x hx
        have a1 := hs j (m - 1) (by omega) (by omega)
        have a2 := hs (m - 1) m (by omega) (by omega)
        have a3 : d[m]! ≠ d[m - 1]! := fun h => by rw [Lib.keeps_neg (by omega) h] at hk; cases hk
        omega
      · rcases List.mem_append.1 hx with h | h
        · obtain ⟨j, hj, rfl⟩ := h2 x h
          exact ⟨j, by omega, rfl⟩
        · exact ⟨m, by omega, by simpa using h⟩
      · rcases Nat.lt_or_ge j m with h | h
        · exact List.mem_append_left _ (h3 j h)
        · obtain rfl : j = m := by omega
          simp
    · rw [if_neg hk]
      have hm0 : 0 < m := by
        rcases Nat.eq_zero_or_pos m with h | h
        · subst h; exact absurd (Lib.keeps_lt_one d 0 (by omega)) hk
        · exact h
      have he : d[m]! = d[m - 1]! := by
        by_cases h : d[m]! = d[m - 1]!
        · exact h
        · exact absurd (Lib.keeps_pos h) hk
      rw [List.append_nil]
      refine ⟨h1, fun x hx => ?_, fun j hj => ?_⟩
      · obtain ⟨j, hj, rfl⟩ := h2 x hx
        exact ⟨j, by omega, rfl⟩
      · rcases Nat.lt_or_ge j m with h | h
        · exact h3 j h
        · obtain rfl : j = m := by omega
          rw [he]; exact h3 _ (by omega)

/-- The functions of an expression, once each, ascending. -/
def sortC (l : List Int) : List Int := Lib.compact (l.mergeSort fun x y => decide (x ≤ y))
theorem sortC_spec (l : List Int) : (sortC l).Pairwise (· < ·) ∧ (∀ x, x ∈ sortC l ↔ x ∈ l) ∧ (sortC l).length ≤ l.length := by
  have hp := List.pairwise_mergeSort (le := fun (x y : Int) => decide (x ≤ y)) (fun a b c h1 h2 => by simp at *; omega) (fun a b => by simp; omega) l
  have hm := List.mergeSort_perm l (fun x y => decide (x ≤ y))
  generalize hz : (l.mergeSort fun x y => decide (x ≤ y)) = zs at *
  have hget : ∀ i j, i ≤ j → j < zs.toArray.size → zs.toArray[i]! ≤ zs.toArray[j]! := by
    intro i j hij hj
    have hj' : j < zs.length := by simpa using hj
    have hi' : i < zs.length := by omega
    rcases Nat.lt_or_ge i j with h | h
    · have := List.pairwise_iff_getElem.1 hp i j hi' hj' h
      simp [hi', hj'] at this ⊢
      exact this
    · obtain rfl : i = j := by omega
      exact Int.le_refl _
  obtain ⟨h1, h2, h3⟩ := compact_inv zs.toArray hget zs.length (by simp)
  have hs : sortC l = Lib.compactUpTo zs.toArray zs.length := by unfold sortC Lib.compact; rw [hz]
  rw [hs]
  refine ⟨h1, fun x => ⟨fun hx => ?_, fun hx => ?_⟩, ?_⟩
  · obtain ⟨j, hj, rfl⟩ := h2 x hx
    have : zs[j]'hj ∈ l := hm.mem_iff.1 (List.getElem_mem hj)
    simpa [hj] using this
  · obtain ⟨j, hj, he⟩ := List.getElem_of_mem (hm.mem_iff.2 hx)
    have := h3 j hj
    simp [hj] at this
    rw [he] at this
    exact this
  · have h4 : (Lib.compactUpTo zs.toArray zs.length).length ≤ zs.length := by
      unfold Lib.compactUpTo
      simp only [List.length_map]
      exact Nat.le_trans (List.length_filter_le _ _) (by simp)
    have := hm.length_eq
    omega

end Go.Proofs.Ytokbjopmfcggdaa
