/- StepOps: the plain law. -/
import Derived.Test.YtokbjopmfcggdaaStepB
namespace Go.Proofs.Ytokbjopmfcggdaa
open Go.RowKit
set_option linter.unusedVariables false
set_option linter.unusedSimpArgs false
set_option linter.unnecessarySimpa false

def opCore (op a b : Int) : Core := .mk 8 op [.mk 5 a [], .mk 5 b []]
def graph3 (op a b : Int) : List (Option Nd) := [some ⟨6, a, []⟩, some ⟨6, b, []⟩, some ⟨10, op, [0, 1]⟩]

theorem opCore_size (op a b : Int) : csize (opCore op a b) = 3 := by simp [opCore, csize, csizes]
theorem opCore_bound (op a b : Int) : boundC (opCore op a b) 0 = true := by
  simp [boundC, opCore, slotsC, slotsA, seenC, seenA, partsK]
theorem opCore_need (op a b : Int) : need (opCore op a b) = 3 := by simp [opCore, need, needs]
theorem opCore_make (most : Nat) (hm : 3 ≤ most) (op a b : Int) : makeF most [] (opCore op a b) [] 0 = ((2, 0, 0), graph3 op a b) := by
  have h1 : room [] most (3 : Nat) = true := by simp [room, cnt]; omega
  unfold makeF
  rw [show ((([] : List Int).length : Nat) : Int) = 0 from rfl, opCore_bound, if_pos rfl, opCore_need, h1, if_pos rfl]
  have a0 : (0 : Nat) < most := by omega
  have a1 : 1 < most := by omega
  have a2 : 2 < most := by omega
  simp [opCore, mkC, mkA, putR, cnt, freeAt, gput, putAt, kindK, envM, a0, a1, a2, graph3, List.findIdx_cons]

theorem graph3_gets (op a b : Int) : gget (graph3 op a b) 0 = some ⟨6, a, []⟩ ∧ gget (graph3 op a b) 1 = some ⟨6, b, []⟩ ∧ gget (graph3 op a b) 2 = some ⟨10, op, [0, 1]⟩ := by
  simp [gget, graph3]
theorem follow_of {G : List (Option Nd)} {i : Int} {nd : Nd} (h : gget G i = some nd) (hk : nd.kind ≠ 5) : follow G i = i := by
  unfold follow
  cases cnt G with
  | zero => rfl
  | succ n => simp [followN, isInd, h, nd0, ndInd, hk]
theorem graph3_follow (op a b : Int) : follow (graph3 op a b) 0 = 0 ∧ follow (graph3 op a b) 1 = 1 ∧ follow (graph3 op a b) 2 = 2 := by
  obtain ⟨h0, h1, h2⟩ := graph3_gets op a b
  exact ⟨follow_of h0 (by simp), follow_of h1 (by simp), follow_of h2 (by simp)⟩
theorem graph3_set (op a b : Int) (nd : Nd) (hk : nd.kind ≠ 5) : gget (gset (graph3 op a b) 2 (some nd)) (follow (gset (graph3 op a b) 2 (some nd)) 2) = some nd := by
  have h : gget (gset (graph3 op a b) 2 (some nd)) 2 = some nd := by
    simp [gget, gset, graph3]
  rw [follow_of h hk, h]

def fitsL (op a b : Int) : Bool := decide (-2147483647 ≤ a) && decide (a ≤ 2147483647) && decide (-2147483647 ≤ b) && decide (b ≤ 2147483647) && decide (1 ≤ op) && decide (op ≤ 5)
def sumCase (r R1 : Int) (nd : Nd) : Prop :=
  (2147483647 < r ∧ R1 = 6 ∧ nd.kind = 10) ∨ ((r < -2147483647 ∧ (2147483647 < r) = False) ∧ R1 = 6 ∧ nd.kind = 10) ∨ ((-2147483647 ≤ r ∧ r ≤ 2147483647) ∧ R1 = 4 ∧ nd = ⟨6, r, []⟩)
def opsCase (op a b : Int) (R1 : Int) (nd : Nd) : Prop :=
  (fitsL op a b = false ∧ R1 = 5 ∧ nd.kind = 10) ∨
  (fitsL op a b = true ∧ ((op = 1 ∧ sumCase (a + b) R1 nd) ∨ (op = 2 ∧ sumCase (a - b) R1 nd) ∨ (op = 3 ∧ sumCase (a * b) R1 nd) ∨
    (op = 4 ∧ R1 = 4 ∧ ((a = b ∧ nd = ⟨1, 0, []⟩) ∨ (a ≠ b ∧ nd = ⟨1, 1, []⟩))) ∨ (op = 5 ∧ R1 = 4 ∧ ((a < b ∧ nd = ⟨1, 0, []⟩) ∨ (b ≤ a ∧ nd = ⟨1, 1, []⟩)))))

theorem sum_plain (op a b r : Int) (ht : testB op = false) (hd : doP op a b = bndP r) : sumCase r (opR (graph3 op a b) 2 op a b).1 (nd0 (gget (opR (graph3 op a b) 2 op a b).2 (follow (opR (graph3 op a b) 2 op a b).2 2))) := by
  obtain ⟨_, _, h2⟩ := graph3_gets op a b
  obtain ⟨_, _, f2⟩ := graph3_follow op a b
  unfold opR sumCase
  rw [hd]
  have hlo : ¬ (-2147483647 ≤ r ∧ r ≤ 2147483647) → bndP r = (0, 7) := by
    intro h
    unfold bndP fitsB
    rw [if_neg (by simp only [Bool.and_eq_true, decide_eq_true_eq]; exact h)]
  by_cases q1 : 2147483647 < r
  · refine .inl ⟨q1, ?_⟩
    rw [hlo (by omega)]
    simp [f2, h2, nd0]
  · by_cases q2 : r < -2147483647
    · refine .inr (.inl ⟨⟨q2, by simp [q1]⟩, ?_⟩)
      rw [hlo (by omega)]
      simp [f2, h2, nd0]
    · refine .inr (.inr ⟨⟨by omega, by omega⟩, ?_⟩)
      have hb : bndP r = (r, 0) := by
        unfold bndP fitsB
        rw [if_pos (by simp only [Bool.and_eq_true, decide_eq_true_eq]; omega)]
      rw [hb]
      have := graph3_set op a b ⟨6, r, []⟩ (by simp)
      simp [this, nd0, ht]

theorem ops_plain (op a b : Int) : opsCase op a b (opR (graph3 op a b) 2 op a b).1 (nd0 (gget (opR (graph3 op a b) 2 op a b).2 (follow (opR (graph3 op a b) 2 op a b).2 2))) := by
  obtain ⟨_, _, h2⟩ := graph3_gets op a b
  obtain ⟨_, _, f2⟩ := graph3_follow op a b
  unfold opsCase
  cases hf : fitsL op a b
  · refine .inl ⟨rfl, ?_⟩
    have hd : doP op a b = (0, 4) := by
      unfold doP
      rw [if_pos]
      unfold fitsL at hf
      unfold rankN fitsB
      by_cases q : rankN op = 0
      · exact .inl (by unfold rankN at q; exact q)
      · right
        have hop : op = 1 ∨ op = 2 ∨ op = 3 ∨ op = 4 ∨ op = 5 := by
          unfold rankN at q
          by_cases h1 : op = 3 <;> by_cases h2 : op = 1 <;> by_cases h3 : op = 2 <;> by_cases h4 : op = 4 <;> by_cases h5 : op = 5 <;> simp_all
        simp only [Bool.and_eq_false_iff, decide_eq_false_iff_not] at hf ⊢
        omega
    unfold opR
    rw [hd]
    simp [f2, h2, nd0]
  · refine .inr ⟨rfl, ?_⟩
    unfold fitsL at hf
    simp only [Bool.and_eq_true, decide_eq_true_eq] at hf
    have fa : fitsB a = true := by unfold fitsB; simp; omega
    have fb : fitsB b = true := by unfold fitsB; simp; omega
    have hop : op = 1 ∨ op = 2 ∨ op = 3 ∨ op = 4 ∨ op = 5 := by omega
    rcases hop with rfl | rfl | rfl | rfl | rfl
    · exact .inl ⟨rfl, sum_plain _ _ _ _ (by decide) (by simp [doP, rankN, fa, fb])⟩
    · exact .inr (.inl ⟨rfl, sum_plain _ _ _ _ (by decide) (by simp [doP, rankN, fa, fb])⟩)
    · exact .inr (.inr (.inl ⟨rfl, sum_plain _ _ _ _ (by decide) (by simp [doP, rankN, fa, fb])⟩))
    · refine .inr (.inr (.inr (.inl ⟨rfl, ?_⟩)))
      have hd : doP 4 a b = (oneP (decide (a = b)), 0) := by simp [doP, rankN, fa, fb]
      have ht : testB 4 = true := by decide
      unfold opR
      rw [hd, ht]
      by_cases q : a = b
      · have := graph3_set 4 a b ⟨1, 0, []⟩ (by simp)
        simp only [q] at this
        simp [q, oneP, nd0, this]
      · have := graph3_set 4 a b ⟨1, 1, []⟩ (by simp)
        simp [q, oneP, nd0, this]
    · refine .inr (.inr (.inr (.inr ⟨rfl, ?_⟩)))
      have hd : doP 5 a b = (oneP (decide (a < b)), 0) := by simp [doP, rankN, fa, fb]
      have ht : testB 5 = true := by decide
      unfold opR
      rw [hd, ht]
      by_cases q : a < b
      · have := graph3_set 5 a b ⟨1, 0, []⟩ (by simp)
        simp [q, oneP, nd0, this]
      · have := graph3_set 5 a b ⟨1, 1, []⟩ (by simp)
        simp [q, oneP, nd0, this]; omega

end Go.Proofs.Ytokbjopmfcggdaa
