/- prim: Fits, Test, Rank, one, Do; node.Lazy. -/
import Derived.Test.YtokbjopmfcggdaaGreatCore
namespace Go.Proofs.YtokbjopmfcggdaaGreat
open Go.RowKit
set_option linter.unusedVariables false
set_option linter.unusedSimpArgs false
set_option linter.unnecessarySimpa false

def PBool (w : World) (b : Bool) (e : Ending) (w' : World) : Prop := e = .returned (.bool b) ∧ w = w'
theorem PBool.mk {w : World} {a b : Bool} (h : a = b) : PBool w b (.returned (.bool a)) w := ⟨by rw [h], rfl⟩
def PInt (w : World) (n : Int) (e : Ending) (w' : World) : Prop := e = .returned (.int .i64 n) ∧ w = w'
theorem PInt.mk {w : World} {a b : Int} (h : a = b) : PInt w b (.returned (.int .i64 a)) w := ⟨by rw [h], rfl⟩

def fitsB (n : Int) : Bool := decide (-2147483647 ≤ n) && decide (n ≤ 2147483647)
theorem prim_fits (n : Int) (w : World) : Calls Tryz.prog 123 #[.int .i64 n] w (PBool w (fitsB n)) := by
  unfold fitsB
  by_cases h1 : -2147483647 ≤ n
  · by_cases h2 : n ≤ 2147483647
    · go_enter Tryz.func123, Tryz.ntmps123
      go_wp2
      go_ret
      exact PBool.mk (by simp [h1, h2])
    · go_enter Tryz.func123, Tryz.ntmps123
      go_wp2
      go_ret
      exact PBool.mk (by simp [h1, h2])
  · go_enter Tryz.func123, Tryz.ntmps123
    go_wp2
    go_ret
    exact PBool.mk (by simp; omega)

def testB (n : Int) : Bool := decide (n = 4) || decide (n = 5)
theorem prim_test (n : Int) (w : World) : Calls Tryz.prog 116 #[.int .i64 n] w (PBool w (testB n)) := by
  unfold testB
  by_cases h1 : n = 4
  · subst h1
    go_enter Tryz.func116, Tryz.ntmps116
    go_wp2
    go_ret
    exact PBool.mk (by simp)
  · have e1 : (n == 4) = false := by simp [h1]
    by_cases h2 : n = 5
    · subst h2
      go_enter Tryz.func116, Tryz.ntmps116
      go_wp2
      go_ret
      exact PBool.mk (by simp)
    · have e2 : (n == 5) = false := by simp [h2]
      go_enter Tryz.func116, Tryz.ntmps116
      go_wp2
      go_ret
      exact PBool.mk (by simp [h1, h2])

def rankN (n : Int) : Int := if n = 3 then 4 else if n = 1 ∨ n = 2 then 3 else if n = 4 ∨ n = 5 then 2 else 0
theorem prim_rank (n : Int) (w : World) : Calls Tryz.prog 122 #[.int .i64 n] w (PInt w (rankN n)) := by
  have hc : n = 3 ∨ (((n == 3) = false ∧ n = 1) ∨ ((n == 3) = false ∧ (n == 1) = false ∧ n = 2)) ∨ ((n == 3) = false ∧ (n == 1) = false ∧ (n == 2) = false ∧ (n = 4 ∨ ((n == 4) = false ∧ n = 5))) ∨ ((n == 3) = false ∧ (n == 1) = false ∧ (n == 2) = false ∧ (n == 4) = false ∧ (n == 5) = false) := by simp only [beq_eq_false_iff_ne]; omega
  rcases hc with rfl | (⟨q1, rfl⟩ | ⟨q1, q2, rfl⟩) | ⟨q1, q2, q3, (rfl | ⟨q4, rfl⟩)⟩ | ⟨q1, q2, q3, q4, q5⟩
  all_goals
    go_enter Tryz.func122, Tryz.ntmps122
    go_wp2
    go_ret
    exact PInt.mk (by unfold rankN; simp only [beq_eq_false_iff_ne] at *; simp [*])

def oneP (b : Bool) : Int := if b then 1 else 0
theorem prim_one (b : Bool) (w : World) : Calls Tryz.prog 125 #[.bool b] w (PInt w (oneP b)) := by
  cases b
  all_goals
    go_enter Tryz.func125, Tryz.ntmps125
    go_wp2
    go_ret
    exact PInt.mk rfl

def lazyB (n : Int) : Bool := decide (n = 2) || decide (n = 9) || decide (n = 10)
theorem node_lazy (n : Int) (w : World) : Calls Tryz.prog 40 #[.int .i64 n] w (PBool w (lazyB n)) := by
  have hc : n = 2 ∨ ((n == 2) = false ∧ n = 9) ∨ ((n == 2) = false ∧ (n == 9) = false ∧ n = 10) ∨ ((n == 2) = false ∧ (n == 9) = false ∧ (n == 10) = false) := by simp only [beq_eq_false_iff_ne]; omega
  rcases hc with rfl | ⟨q1, rfl⟩ | ⟨q1, q2, rfl⟩ | ⟨q1, q2, q3⟩
  all_goals
    go_enter Tryz.func40, Tryz.ntmps40
    go_wp2
    go_ret
    exact PBool.mk (by unfold lazyB; simp only [beq_eq_false_iff_ne] at *; simp [*])

/-- The result, if it fits. -/
def bndP (n : Int) : Int × Int := if fitsB n = true then (n, 0) else (0, 7)
def PTwo (w : World) (r : Int × Int) (e : Ending) (w' : World) : Prop := e = .returned (.tuple #[.int .i64 r.1, .int .i64 r.2]) ∧ w = w'
theorem PTwo.mk {w : World} {a b : Int} {r : Int × Int} (h : (a, b) = r) : PTwo w r (.returned (.tuple #[.int .i64 a, .int .i64 b])) w := by subst h; exact ⟨rfl, rfl⟩
theorem prim_bounded (n : Int) (w : World) : Calls Tryz.prog 124 #[.int .i64 n] w (PTwo w (bndP n)) := by
  unfold bndP
  have hf := prim_fits n
  cases hq : fitsB n
  all_goals
    rw [hq] at hf
    have HF := Lib.hid hf
    clear hf
    go_enter Tryz.func124, Tryz.ntmps124
    go_wp2_with (go_at_call 123; refine (HF.out _).mono ?_; rintro e w' ⟨rfl, rfl⟩)
    go_ret2
    exact PTwo.mk (by simp)

def doP (op a b : Int) : Int × Int :=
  if rankN op = 0 ∨ fitsB a = false ∨ fitsB b = false then (0, 4)
  else if op = 1 then bndP (a + b) else if op = 2 then bndP (a - b) else if op = 3 then bndP (a * b) else if op = 4 then (oneP (decide (a = b)), 0) else (oneP (decide (a < b)), 0)

theorem fitsB_iff {n : Int} (h : fitsB n = true) : -2147483647 ≤ n ∧ n ≤ 2147483647 := by
  unfold fitsB at h; simpa using h
theorem mul_small {a b : Int} (ha : -2147483647 ≤ a ∧ a ≤ 2147483647) (hb : -2147483647 ≤ b ∧ b ≤ 2147483647) : -4611686014132420609 ≤ a * b ∧ a * b ≤ 4611686014132420609 := by
  have h1 : (a * b).natAbs ≤ 2147483647 * 2147483647 := by
    rw [Int.natAbs_mul]
    exact Nat.mul_le_mul (by omega) (by omega)
  omega

set_option maxHeartbeats 1000000 in
set_option maxRecDepth 100000 in
theorem prim_do (op a b : Int) (w : World) : Calls Tryz.prog 115 #[.int .i64 op, .int .i64 a, .int .i64 b] w (PTwo w (doP op a b)) := by
  have hr := prim_rank op
  have hfa := prim_fits a
  have hfb := prim_fits b
  by_cases q0 : rankN op = 0
  · have he : doP op a b = (0, 4) := by unfold doP; rw [if_pos (.inl q0)]
    rw [he]
    rw [q0] at hr
    have HR := Lib.hid hr
    clear hr hfa hfb he q0
    go_enter Tryz.func115, Tryz.ntmps115
    go_wp2_with (go_at_call 122; refine (HR.out _).mono ?_; rintro e w' ⟨rfl, rfl⟩)
    go_ret2
    exact PTwo.mk rfl
  · have q0' : (rankN op == 0) = false := by simp [q0]
    have hop : op = 1 ∨ op = 2 ∨ op = 3 ∨ op = 4 ∨ op = 5 := by
      unfold rankN at q0
      by_cases h1 : op = 3 <;> by_cases h2 : op = 1 <;> by_cases h3 : op = 2 <;> by_cases h4 : op = 4 <;> by_cases h5 : op = 5 <;> simp_all
    by_cases qa : fitsB a = true
    · by_cases qb : fitsB b = true
      · have he : doP op a b = if op = 1 then bndP (a + b) else if op = 2 then bndP (a - b) else if op = 3 then bndP (a * b) else if op = 4 then (oneP (decide (a = b)), 0) else (oneP (decide (a < b)), 0) := by
          rw [doP, if_neg (by simp [q0, qa, qb])]
        have ba := fitsB_iff qa
        have bb := fitsB_iff qb
        have bm := mul_small ba bb
        rw [qa] at hfa
        rw [qb] at hfb
        have HR := Lib.hid (And.intro hr he)
        obtain ⟨ba1, ba2⟩ := ba
        obtain ⟨bb1, bb2⟩ := bb
        obtain ⟨bm1, bm2⟩ := bm
        clear hr hfa hfb he q0
        have H1 : Hid (∀ n w, Calls Tryz.prog 124 #[.int .i64 n] w (PTwo w (bndP n))) := Lib.hid prim_bounded
        have H2 : Hid (∀ n w, Calls Tryz.prog 123 #[.int .i64 n] w (PBool w (fitsB n))) := Lib.hid prim_fits
        have H3 : Hid (∀ b w, Calls Tryz.prog 125 #[.bool b] w (PInt w (oneP b))) := Lib.hid prim_one
        generalize rankN op = rk at *
        rcases hop with rfl | rfl | rfl | rfl | rfl
        all_goals
          go_enter Tryz.func115, Tryz.ntmps115
          go_wp2_with (first | (go_at_call 122; refine (HR.out.1 _).mono ?_; rintro e w' ⟨rfl, rfl⟩) | (go_at_call 124; refine (H1.out _ _).mono ?_; rintro e w' ⟨rfl, rfl⟩) | (go_at_call 123; refine (H2.out _ _).mono ?_; rintro e w' ⟨rfl, rfl⟩) | (go_at_call 125; refine (H3.out _ _).mono ?_; rintro e w' ⟨rfl, rfl⟩))
          go_ret2
          exact PTwo.mk (by rw [HR.out.2]; first | (simp; done) | (simp; rfl))
      · have he : doP op a b = (0, 4) := by unfold doP; rw [if_pos (.inr (.inr (by simpa using qb)))]
        rw [he]
        have qb' : fitsB b = false := by simpa using qb
        have HR := Lib.hid hr
        have H2 : Hid (∀ n w, Calls Tryz.prog 123 #[.int .i64 n] w (PBool w (fitsB n))) := Lib.hid prim_fits
        clear hr hfa hfb he q0 qb hop
        generalize rankN op = rk at *
        go_enter Tryz.func115, Tryz.ntmps115
        go_wp2_with (first | (go_at_call 122; refine (HR.out _).mono ?_; rintro e w' ⟨rfl, rfl⟩) | (go_at_call 123; refine (H2.out _ _).mono ?_; rintro e w' ⟨rfl, rfl⟩))
        go_ret2
        exact PTwo.mk rfl
    · have he : doP op a b = (0, 4) := by unfold doP; rw [if_pos (.inr (.inl (by simpa using qa)))]
      rw [he]
      have qa' : fitsB a = false := by simpa using qa
      have HR := Lib.hid hr
      have H2 : Hid (∀ n w, Calls Tryz.prog 123 #[.int .i64 n] w (PBool w (fitsB n))) := Lib.hid prim_fits
      clear hr hfa hfb he q0 qa hop
      generalize rankN op = rk at *
      go_enter Tryz.func115, Tryz.ntmps115
      go_wp2_with (first | (go_at_call 122; refine (HR.out _).mono ?_; rintro e w' ⟨rfl, rfl⟩) | (go_at_call 123; refine (H2.out _ _).mono ?_; rintro e w' ⟨rfl, rfl⟩))
      go_ret2
      exact PTwo.mk rfl

end Go.Proofs.YtokbjopmfcggdaaGreat
