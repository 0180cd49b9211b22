/- A region that draws its order: what only reads cells that stand is taken first, a whole run of operations at once; operations that wait for all reads (stores, mostly) need not leave those cells as they were. -/
import Derived.Test.YtokbjopmfcggdaaGreatBase
import Derived.OrdersHeld
import Derived.RegionTactic
namespace Go.Proofs.YtokbjopmfcggdaaGreat
open Go.RowKit
set_option linter.unusedVariables false
set_option linter.unusedSimpArgs false
set_option linter.unnecessarySimpa false

section
variable {P : Program} {ops : Array Oper} {Q : Exit → Act → World → Prop} {md : Region.Mode} {S : World → Prop} {X : List Nat}

/-- Whatever order is picked from here on; behind every operation that is not of X, S holds. -/
def wpAnyX (P : Program) (md : Region.Mode) (ops : Array Oper) (Q : Exit → Act → World → Prop) (S : World → Prop) (X : List Nat) : Nat → Array Bool → Act → World → Prop
  | 0, listed, a, w => Region.ready md ops listed = [] ∧ Q .normal a w
  | fuel + 1, listed, a, w =>
    (Region.ready md ops listed = [] → Q .normal a w) ∧
    ∀ i ∈ Region.ready md ops listed, wpOp P ops Q i (fun a' w' => (X.contains i = false → S w') ∧ wpAnyX P md ops Q S X fuel (listed.setIfInBounds i true) a' w') a w

theorem wpAny_of_X : ∀ (fuel : Nat) (listed : Array Bool) (a : Act) (w : World), wpAnyX P md ops Q S X fuel listed a w → wpAny P md ops Q fuel listed a w
  | 0, _, _, _, h => h
  | fuel + 1, _, _, _, h => ⟨h.1, fun i hi => wpOp_mono (fun a' w' h' => wpAny_of_X fuel _ a' w' h'.2) (h.2 i hi)⟩

/-- 'W': operations that wait for number i, of themselves or through one another. -/
def WaitsFor (md : Region.Mode) (ops : Array Oper) (listed : Array Bool) (i : Nat) (W : List Nat) : Prop :=
  ∀ k ∈ W, listed.getD k true = false ∧ ∃ ok, ops[k]? = some ok ∧ ∃ e ∈ ok.after, Region.binds md e = true ∧ (e.on = i ∨ e.on ∈ W)

theorem not_listed {listed : Array Bool} {i : Nat} (h0 : listed.getD i true = false) (h1 : listed.getD i false = true) : False := by
  rcases Nat.lt_or_ge i listed.size with h' | h'
  · simp [h'] at h0 h1; rw [h0] at h1; cases h1
  · simp [Array.getElem?_eq_none h'] at h1

theorem wpAnyX_first {i : Nat} {oi : Oper} {v : Value} (W : List Nat) (hi : ops[i]? = some oi) (hsel : ∀ (j : Nat) (o : Oper) cs b, ops[j]? = some o → o.op ≠ .select cs b)
    (hQ : ∀ c a w, Q (.panic c) (a.put oi.dst v) w → Q (.panic c) a w) :
    ∀ (fuel : Nat) (listed : Array Bool) (a : Act) (w : World),
      (∀ j oj, ops[j]? = some oj → j ≠ i → listed.getD j true = false → (∀ e ∈ oj.after, Region.binds md e = true → e.on ≠ i) → oi.apart ops oj = true) →
      (∀ j, j ≠ i → listed.getD j true = false → X.contains j = true → j ∈ W) → WaitsFor md ops listed i W →
      i ∈ Region.ready md ops listed → YieldsIf P ops S oi v a → S w →
      wpAnyX P md ops Q S X fuel (listed.setIfInBounds i true) (a.put oi.dst v) w → wpAnyX P md ops Q S X (fuel + 1) listed a w := by
  intro fuel
  induction fuel with
  | zero =>
    intro listed a w _ _ _ hr hy hS H
    refine ⟨fun h => (by rw [h] at hr; cases hr), fun j hj => ?_⟩
    by_cases hji : j = i
    · subst hji; exact hy.wpOp hi hS ⟨fun _ => hS, H⟩
    · have := ready_mono hj hji
      rw [H.1] at this
      cases this
  | succ fuel ih =>
    intro listed a w hfree hXW hW hr hy hS H
    refine ⟨fun h => (by rw [h] at hr; cases hr), fun j hj => ?_⟩
    by_cases hji : j = i
    · subst hji; exact hy.wpOp hi hS ⟨fun _ => hS, H⟩
    · have h1 := H.2 j (ready_mono hj hji)
      obtain ⟨hjun, oj, hoj, hall⟩ := mem_ready.1 hj
      have h0 := (mem_ready.1 hr).1
      have hnot : ∀ e ∈ oj.after, Region.binds md e = true → e.on ≠ i := fun e he hb heq => by
        have h1 := hall e he hb
        rw [heq] at h1
        exact not_listed h0 h1
      have hjW : j ∉ W := fun hm => by
        obtain ⟨_, ok, hok, e, he, hb, h2⟩ := hW j hm
        rw [hoj] at hok
        injection hok with hok
        subst hok
        rcases h2 with h2 | h2
        · exact hnot e he hb h2
        · exact not_listed (hW _ h2).1 (hall e he hb)
      have hap := hfree j oj hoj hji hjun hnot
      have hX : X.contains j = false := by
        rw [Bool.eq_false_iff]
        exact fun h => hjW (hXW j hji hjun h)
      have h2 := wpOp_putIf hoj hap (fun cs b => hsel i oi cs b hi) (fun cs b => hsel j oj cs b hoj) hQ hy h1
      have hun' : ∀ k, (listed.setIfInBounds j true).getD k true = false → listed.getD k true = false := fun k hun => by
        by_cases hjk : j = k
        · subst hjk; exact hjun
        · rw [getD_set_ne true hjk] at hun; exact hun
      have hW' : WaitsFor md ops (listed.setIfInBounds j true) i W := fun k hk => by
        obtain ⟨h3, h4⟩ := hW k hk
        refine ⟨?_, h4⟩
        have hjk : j ≠ k := by rintro rfl; exact hjW hk
        rw [getD_set_ne true hjk]
        exact h3
      refine wpOp_mono (fun a' w' h3 => ⟨h3.2.1, ih (listed.setIfInBounds j true) a' w' (fun k ok hk hki hun hno => hfree k ok hk hki (hun' k hun) hno) (fun k hki hun hx => hXW k hki (hun' k hun) hx) hW' (ready_mono hr (Ne.symm hji)) h3.1 (h3.2.1 hX) ?_⟩) h2
      rw [Array.setIfInBounds_comm _ _ hji]
      exact h3.2.2

/-- An operation that yields in whatever world, and of which nothing is asked behind it. -/
theorem wpAnyX_first0 {i : Nat} {oi : Oper} {v : Value} (hi : ops[i]? = some oi) (hsel : ∀ (j : Nat) (o : Oper) cs b, ops[j]? = some o → o.op ≠ .select cs b)
    (hiX : X.contains i = true) (hQ : ∀ c a w, Q (.panic c) (a.put oi.dst v) w → Q (.panic c) a w) :
    ∀ (fuel : Nat) (listed : Array Bool) (a : Act) (w : World),
      (∀ j oj, ops[j]? = some oj → j ≠ i → listed.getD j true = false → (∀ e ∈ oj.after, Region.binds md e = true → e.on ≠ i) → oi.apart ops oj = true) →
      i ∈ Region.ready md ops listed → YieldsIf P ops (fun _ => True) oi v a →
      wpAnyX P md ops Q S X fuel (listed.setIfInBounds i true) (a.put oi.dst v) w → wpAnyX P md ops Q S X (fuel + 1) listed a w := by
  intro fuel
  induction fuel with
  | zero =>
    intro listed a w _ hr hy H
    refine ⟨fun h => (by rw [h] at hr; cases hr), fun j hj => ?_⟩
    by_cases hji : j = i
    · subst hji; exact hy.wpOp hi trivial ⟨fun h => (by rw [hiX] at h; cases h), H⟩
    · have := ready_mono hj hji
      rw [H.1] at this
      cases this
  | succ fuel ih =>
    intro listed a w hfree hr hy H
    refine ⟨fun h => (by rw [h] at hr; cases hr), fun j hj => ?_⟩
    by_cases hji : j = i
    · subst hji; exact hy.wpOp hi trivial ⟨fun h => (by rw [hiX] at h; cases h), H⟩
    · have h1 := H.2 j (ready_mono hj hji)
      obtain ⟨hjun, oj, hoj, hall⟩ := mem_ready.1 hj
      have hnot : ∀ e ∈ oj.after, Region.binds md e = true → e.on ≠ i := fun e he hb heq => by
        have h1 := hall e he hb
        have h0 := (mem_ready.1 hr).1
        rw [heq] at h1
        rcases Nat.lt_or_ge i listed.size with h' | h'
        · simp [h'] at h0 h1; rw [h0] at h1; cases h1
        · simp [Array.getElem?_eq_none h'] at h1
      have hap := hfree j oj hoj hji hjun hnot
      have h2 := wpOp_putIf hoj hap (fun cs b => hsel i oi cs b hi) (fun cs b => hsel j oj cs b hoj) hQ hy h1
      have hfree' : ∀ k ok, ops[k]? = some ok → k ≠ i → (listed.setIfInBounds j true).getD k true = false →
          (∀ e ∈ ok.after, Region.binds md e = true → e.on ≠ i) → oi.apart ops ok = true := fun k ok hk hki hun hno => by
        refine hfree k ok hk hki ?_ hno
        by_cases hjk : j = k
        · subst hjk; exact hjun
        · rw [getD_set_ne true hjk] at hun; exact hun
      refine wpOp_mono (fun a' w' h3 => ⟨h3.2.1, ih (listed.setIfInBounds j true) a' w' hfree' (ready_mono hr (Ne.symm hji)) h3.1 ?_⟩) h2
      rw [Array.setIfInBounds_comm _ _ hji]
      exact h3.2.2

/-- Who waits for number i. -/
def waiters (md : Region.Mode) (ops : Array Oper) (listed : Array Bool) (i : Nat) : List Nat :=
  (List.range ops.size).foldl (fun acc j => if !(j == i) && !listed.getD j true && (match ops[j]? with | some oj => oj.after.any (fun e => Region.binds md e && (e.on == i || acc.contains e.on)) | none => false) then j :: acc else acc) []
/-- The check at a take. -/
def freeX (md : Region.Mode) (ops : Array Oper) (X : List Nat) (listed : Array Bool) (i : Nat) : Bool :=
  let W := waiters md ops listed i
  Region.free md ops listed i && (Region.ready md ops listed).contains i &&
  (X.all fun j => j == i || listed.getD j true || W.contains j) &&
  W.all fun k => !listed.getD k true && (match ops[k]? with | some ok => ok.after.any (fun e => Region.binds md e && (e.on == i || W.contains e.on)) | none => false)

theorem freeX_spec {i : Nat} {oi : Oper} {listed : Array Bool} (hi : ops[i]? = some oi) (h : freeX md ops X listed i = true) :
    i ∈ Region.ready md ops listed ∧ (∀ j oj, ops[j]? = some oj → j ≠ i → listed.getD j true = false → (∀ e ∈ oj.after, Region.binds md e = true → e.on ≠ i) → oi.apart ops oj = true) ∧
      (∀ j, j ≠ i → listed.getD j true = false → X.contains j = true → j ∈ waiters md ops listed i) ∧ WaitsFor md ops listed i (waiters md ops listed i) := by
  simp only [freeX] at h
  generalize waiters md ops listed i = W at h ⊢
  simp only [Bool.and_eq_true] at h
  obtain ⟨⟨⟨h1, h2⟩, h3⟩, h4⟩ := h
  refine ⟨by simpa using h2, fun j oj hj hne hun hno => Region.free_spec hi h1 j oj hj hne hun hno, fun j hne hun hx => ?_, fun k hk => ?_⟩
  · rw [List.all_eq_true] at h3
    have h5 := h3 j (by simpa using hx)
    simpa [hne, hun] using h5
  · rw [List.all_eq_true] at h4
    have h5 := h4 k hk
    simp only [Bool.and_eq_true, Bool.not_eq_true'] at h5
    refine ⟨h5.1, ?_⟩
    have h6 := h5.2
    cases hok : ops[k]? with
    | none => rw [hok] at h6; simp at h6
    | some ok =>
      rw [hok] at h6
      refine ⟨ok, rfl, ?_⟩
      obtain ⟨e, he, hb⟩ := Array.any_eq_true'.1 h6
      simp only [Bool.and_eq_true, Bool.or_eq_true, beq_iff_eq] at hb
      refine ⟨e, he, hb.1, ?_⟩
      rcases hb.2 with h7 | h7
      · exact .inl h7
      · exact .inr (by simpa using h7)

/-- A run of operations, each of which yields its value in every world that meets S. -/
inductive YieldsRun (P : Program) (ops : Array Oper) (S : World → Prop) : List (Option Oper) → Act → Act → Prop
  | nil (a : Act) : YieldsRun P ops S [] a a
  | cons {o : Oper} {r : List (Option Oper)} {a b : Act} (v : Value) (h : YieldsIf P ops S o v a) (hr : YieldsRun P ops S r (a.put o.dst v) b) : YieldsRun P ops S (some o :: r) a b

theorem YieldsRun.step {o : Oper} {r : List (Option Oper)} {a b : Act} {v : Value} (hw : Region.wanted o (yielded ops a.tmps) = true) (h : ∀ w, S w → (execOp a.eval o).run P w = .ok (.value v) w) (hr : YieldsRun P ops S r (a.put o.dst v) b) : YieldsRun P ops S (some o :: r) a b :=
  .cons v (.inl ⟨hw, h⟩) hr
theorem YieldsRun.skip {o : Oper} {r : List (Option Oper)} {a b : Act} (hw : Region.wanted o (yielded ops a.tmps) = false) (hr : YieldsRun P ops S r (a.put o.dst undef) b) : YieldsRun P ops S (some o :: r) a b :=
  .cons undef (.inr ⟨hw, rfl⟩) hr

/-- The same, with what follows. -/
def SegThen (P : Program) (ops : Array Oper) (S : World → Prop) (l : List (Option Oper)) (a : Act) (K : Act → Prop) : Prop := ∃ b, YieldsRun P ops S l a b ∧ K b
theorem SegThen.nil {a : Act} {K : Act → Prop} (h : K a) : SegThen P ops S [] a K := ⟨a, .nil a, h⟩
theorem SegThen.step {o : Oper} {r : List (Option Oper)} {a : Act} {K : Act → Prop} {v : Value} (hw : Region.wanted o (yielded ops a.tmps) = true) (h : ∀ w, S w → (execOp a.eval o).run P w = .ok (.value v) w) (hr : SegThen P ops S r (a.put o.dst v) K) : SegThen P ops S (some o :: r) a K :=
  let ⟨b, h1, h2⟩ := hr; ⟨b, h1.step hw h, h2⟩
theorem SegThen.skip {o : Oper} {r : List (Option Oper)} {a : Act} {K : Act → Prop} (hw : Region.wanted o (yielded ops a.tmps) = false) (hr : SegThen P ops S r (a.put o.dst undef) K) : SegThen P ops S (some o :: r) a K :=
  let ⟨b, h1, h2⟩ := hr; ⟨b, h1.skip hw, h2⟩

def segOk (md : Region.Mode) (ops : Array Oper) (X : List Nat) : Array Bool → List Nat → Bool
  | _, [] => true
  | listed, i :: r => freeX md ops X listed i && segOk md ops X (listed.setIfInBounds i true) r
def setAll (listed : Array Bool) (seg : List Nat) : Array Bool := seg.foldl (fun l i => l.setIfInBounds i true) listed

/-- Take a run first. -/
theorem wpAnyX_seg (hs : Region.noSelect ops = true) (hQ : ∀ c a d v w, Q (.panic c) (Act.put a d v) w → Q (.panic c) a w) :
    ∀ (seg : List Nat) (l : List (Option Oper)) {fuel : Nat} {listed : Array Bool} {a b : Act} {w : World}, segOk md ops X listed seg = true → seg.map (ops[·]?) = l → YieldsRun P ops S l a b → S w →
      wpAnyX P md ops Q S X fuel (setAll listed seg) b w → wpAnyX P md ops Q S X (fuel + seg.length) listed a w := by
  intro seg
  induction seg with
  | nil =>
    intro l fuel listed a b w _ hl hy _ h
    simp at hl
    subst hl
    cases hy; exact h
  | cons i seg ih =>
    intro l fuel listed a b w hok hl hy hS h
    simp only [segOk, Bool.and_eq_true] at hok
    cases hy with
    | nil => simp at hl
    | cons v hv hr =>
      simp only [List.map_cons, List.cons.injEq] at hl
      obtain ⟨h1, h2, h3, h4⟩ := freeX_spec hl.1 hok.1
      exact wpAnyX_first _ hl.1 (Region.noSelect_spec hs) (fun c a w => hQ c a _ _ w) (fuel + seg.length) listed a w h2 h3 h4 h1 hv hS (ih _ hok.2 hl.2 hr hS h)

/-- Take a run first. -/
theorem wpAnyX_take (seg : List Nat) {l : List (Option Oper)} (fuel : Nat) {listed : Array Bool} {a : Act} {w : World} (hs : Region.noSelect ops = true) (hQ : ∀ c a d v w, Q (.panic c) (Act.put a d v) w → Q (.panic c) a w)
    (hok : segOk md ops X listed seg = true) (hl : seg.map (ops[·]?) = l) (hS : S w) (h : SegThen P ops S l a (fun b => wpAnyX P md ops Q S X fuel (setAll listed seg) b w)) : wpAnyX P md ops Q S X (fuel + seg.length) listed a w :=
  let ⟨_, h1, h2⟩ := h; wpAnyX_seg hs hQ seg l hok hl h1 hS h2

def segOk0 (md : Region.Mode) (ops : Array Oper) (X : List Nat) : Array Bool → List Nat → Bool
  | _, [] => true
  | listed, i :: r => X.contains i && Region.free md ops listed i && (Region.ready md ops listed).contains i && segOk0 md ops X (listed.setIfInBounds i true) r
/-- Take a run first, of operations of X that yield in whatever world. -/
theorem wpAnyX_seg0 (hs : Region.noSelect ops = true) (hQ : ∀ c a d v w, Q (.panic c) (Act.put a d v) w → Q (.panic c) a w) :
    ∀ (seg : List Nat) (l : List (Option Oper)) {fuel : Nat} {listed : Array Bool} {a b : Act} {w : World}, segOk0 md ops X listed seg = true → seg.map (ops[·]?) = l → YieldsRun P ops (fun _ => True) l a b →
      wpAnyX P md ops Q S X fuel (setAll listed seg) b w → wpAnyX P md ops Q S X (fuel + seg.length) listed a w := by
  intro seg
  induction seg with
  | nil =>
    intro l fuel listed a b w _ hl hy h
    simp at hl
    subst hl
    cases hy; exact h
  | cons i seg ih =>
    intro l fuel listed a b w hok hl hy h
    simp only [segOk0, Bool.and_eq_true] at hok
    cases hy with
    | nil => simp at hl
    | cons v hv hr =>
      simp only [List.map_cons, List.cons.injEq] at hl
      exact wpAnyX_first0 hl.1 (Region.noSelect_spec hs) hok.1.1.1 (fun c a w => hQ c a _ _ w) (fuel + seg.length) listed a w (Region.free_spec hl.1 hok.1.1.2) (by simpa using hok.1.2) hv (ih _ hok.2 hl.2 hr h)
theorem wpAnyX_take0 (seg : List Nat) {l : List (Option Oper)} (fuel : Nat) {listed : Array Bool} {a : Act} {w : World} (hs : Region.noSelect ops = true) (hQ : ∀ c a d v w, Q (.panic c) (Act.put a d v) w → Q (.panic c) a w)
    (hok : segOk0 md ops X listed seg = true) (hl : seg.map (ops[·]?) = l) (h : SegThen P ops (fun _ => True) l a (fun b => wpAnyX P md ops Q S X fuel (setAll listed seg) b w)) : wpAnyX P md ops Q S X (fuel + seg.length) listed a w :=
  let ⟨_, h1, h2⟩ := h; wpAnyX_seg0 hs hQ seg l hok hl h1 h2

/-- One operation comes next, and no other. -/
def QX (P : Program) (md : Region.Mode) (ops : Array Oper) (Q : Exit → Act → World → Prop) (S : World → Prop) (X : List Nat) (fuel : Nat) (listed : Array Bool) (i : Nat) : Exit → Act → World → Prop
  | .normal, a, w => (X.contains i = false → S w) ∧ wpAnyX P md ops Q S X fuel (listed.setIfInBounds i true) a w
  | e, a, w => Q e a w

theorem wpOp_of_list {i : Nat} {o : Oper} {a : Act} {w : World} {fuel : Nat} {listed : Array Bool} (ho : ops[i]? = some o) (hp : ∀ c a w, QX P md ops Q S X fuel listed i (.panic c) a w → Q (.panic c) a w) (hlet : LetsOut (QX P md ops Q S X fuel listed i) → LetsOut Q)
    (h : wpList P ops (QX P md ops Q S X fuel listed i) [o] a w) :
    wpOp P ops Q i (fun a' w' => (X.contains i = false → S w') ∧ wpAnyX P md ops Q S X fuel (listed.setIfInBounds i true) a' w') a w := by
  unfold wpOp
  simp only [ho]
  unfold wpList at h
  split at h
  · rename_i hw
    rw [if_pos hw]
    rcases h with h | ⟨h1, h2⟩
    · refine .inl ?_
      unfold Oper.wp at *
      generalize (execOp a.eval o).run P w = r at *
      cases r with
      | ok n w' =>
        cases n <;> simp only [Oper.upon] at h ⊢ <;>
          first
            | exact h
            | exact Calls.mono h (fun e w'' he => by cases e <;> first | exact he | exact hp _ _ _ he | exact hlet he)
            | exact Rows.mono h (fun _ _ he => he)
      | halt x w' => cases x <;> simp only [Oper.upon] at h ⊢ <;> first | exact hp _ _ _ h | exact h
    · exact .inr ⟨h1, hlet h2⟩
  · rename_i hw
    rw [if_neg hw]
    exact h

theorem wpAnyX_one (i : Nat) {o : Oper} {fuel : Nat} {listed : Array Bool} {a : Act} {w : World} (hr : Region.ready md ops listed = [i]) (ho : ops[i]? = some o)
    (h : wpList P ops (QX P md ops Q S X fuel listed i) [o] a w) : wpAnyX P md ops Q S X (fuel + 1) listed a w := by
  refine ⟨fun h0 => absurd (hr ▸ h0) (by simp), fun j hj => ?_⟩
  rw [hr] at hj
  obtain rfl : j = i := by simpa using hj
  exact wpOp_of_list ho (fun _ _ _ h => h) (fun h => h) h
theorem wpAnyX_two (i j : Nat) {o o' : Oper} {fuel : Nat} {listed : Array Bool} {a : Act} {w : World} (hr : Region.ready md ops listed = [i, j]) (ho : ops[i]? = some o) (ho' : ops[j]? = some o')
    (h : wpList P ops (QX P md ops Q S X fuel listed i) [o] a w) (h' : wpList P ops (QX P md ops Q S X fuel listed j) [o'] a w) : wpAnyX P md ops Q S X (fuel + 1) listed a w := by
  refine ⟨fun h0 => absurd (hr ▸ h0) (by simp), fun k hk => ?_⟩
  rw [hr] at hk
  rcases (show k = i ∨ k = j by simpa using hk) with rfl | rfl
  · exact wpOp_of_list ho (fun _ _ _ h => h) (fun h => h) h
  · exact wpOp_of_list ho' (fun _ _ _ h => h) (fun h => h) h'
theorem wpAnyX_done {listed : Array Bool} {a : Act} {w : World} (hr : Region.ready md ops listed = []) (h : Q .normal a w) : wpAnyX P md ops Q S X 0 listed a w := ⟨hr, h⟩
theorem QX_intro {fuel : Nat} {listed : Array Bool} {i : Nat} {a : Act} {w : World} (hS : X.contains i = false → S w) (h : wpAnyX P md ops Q S X fuel (listed.setIfInBounds i true) a w) : QX P md ops Q S X fuel listed i .normal a w := ⟨hS, h⟩

theorem wpAnyX_world {fuel : Nat} {listed : Array Bool} {a : Act} {w : World} (S' : World → Prop) (h : S' w) (k : ∀ w', S' w' → wpAnyX P md ops Q S X fuel listed a w') : wpAnyX P md ops Q S X fuel listed a w := k w h

def forced (md : Region.Mode) (ops : Array Oper) (X : List Nat) : Array Bool → List Nat → Bool
  | listed, [] => (Region.ready md ops listed).isEmpty
  | listed, i :: r => Region.ready md ops listed == [i] && X.contains i && forced md ops X (listed.setIfInBounds i true) r
/-- The rest, in its one order. -/
theorem wpAnyX_tail : ∀ (seg : List Nat) (l : List (Option Oper)) {listed : Array Bool} {a : Act} {w : World}, forced md ops X listed seg = true → seg.map (ops[·]?) = l → l.all Option.isSome = true →
    wpList P ops Q (l.filterMap id) a w → wpAnyX P md ops Q S X seg.length listed a w := by
  intro seg
  induction seg with
  | nil =>
    intro l listed a w hf hl _ h
    simp at hl; subst hl
    exact ⟨by simpa [forced] using hf, h⟩
  | cons i r ih =>
    intro l listed a w hf hl hs h
    simp only [forced, Bool.and_eq_true, beq_iff_eq] at hf
    cases l with
    | nil => simp at hl
    | cons o l =>
      simp only [List.map_cons, List.cons.injEq] at hl
      cases o with
      | none => simp at hs
      | some o =>
        simp only [List.filterMap_cons_some (f := id) (a := some o) (b := o) rfl] at h
        refine ⟨fun h0 => absurd (hf.1.1 ▸ h0) (by simp), fun j hj => ?_⟩
        rw [hf.1.1] at hj
        obtain rfl : j = i := by simpa using hj
        have h2 : wpOp P ops Q j (wpList P ops Q (l.filterMap id)) a w := by
          unfold wpOp; simp only [hl.1]; unfold wpList at h; exact h
        exact wpOp_mono (fun a' w' h' => ⟨fun hx => by rw [hf.1.2] at hx; simp at hx, ih l hf.2 hl.2 (by simpa using hs) h'⟩) h2

def QR (P : Program) (md : Region.Mode) (ops : Array Oper) (Q : Exit → Act → World → Prop) (S : World → Prop) (X : List Nat) (fuel : Nat) (listed : Array Bool) : Exit → Act → World → Prop
  | .normal, a, w => wpAnyX P md ops Q S X fuel listed a w
  | e, a, w => Q e a w
theorem QR_intro {fuel : Nat} {listed : Array Bool} {a : Act} {w : World} (h : wpAnyX P md ops Q S X fuel listed a w) : QR P md ops Q S X fuel listed .normal a w := h
theorem wpList_QR {fuel : Nat} {listed : Array Bool} {a : Act} {w : World} {o : Oper} {K : Act → World → Prop}
    (h : if Region.wanted o (yielded ops a.tmps) then o.wp P a w K (QR P md ops Q S X fuel listed) ∨ (o.asks P a w ∧ LetsOut (QR P md ops Q S X fuel listed)) else K (a.put o.dst undef) w) :
    if Region.wanted o (yielded ops a.tmps) then o.wp P a w K Q ∨ (o.asks P a w ∧ LetsOut Q) else K (a.put o.dst undef) w := by
  split
  · rename_i hw
    rw [if_pos hw] at h
    rcases h with h | ⟨h1, h2⟩
    · refine .inl ?_
      unfold Oper.wp at *
      generalize (execOp a.eval o).run P w = r at *
      cases r with
      | ok n w' =>
        cases n <;> simp only [Oper.upon] at h ⊢ <;>
          first
            | exact h
            | exact Calls.mono h (fun e w'' he => by cases e <;> exact he)
            | exact Rows.mono h (fun _ _ he => he)
      | halt x w' => cases x <;> simp only [Oper.upon] at h ⊢ <;> exact h
    · exact .inr ⟨h1, h2⟩
  · rename_i hw
    rw [if_neg hw] at h
    exact h
def forcedRun (md : Region.Mode) (ops : Array Oper) (X : List Nat) : Array Bool → List Nat → Bool
  | _, [] => true
  | listed, i :: r => Region.ready md ops listed == [i] && X.contains i && forcedRun md ops X (listed.setIfInBounds i true) r
/-- A run in its one order, of operations behind which nothing is asked. -/
theorem wpAnyX_run : ∀ (seg : List Nat) (l : List (Option Oper)) (fuel : Nat) {listed : Array Bool} {a : Act} {w : World}, forcedRun md ops X listed seg = true → seg.map (ops[·]?) = l → l.all Option.isSome = true →
    wpList P ops (QR P md ops Q S X fuel (setAll listed seg)) (l.filterMap id) a w → wpAnyX P md ops Q S X (fuel + seg.length) listed a w := by
  intro seg
  induction seg with
  | nil =>
    intro l fuel listed a w hf hl _ h
    simp at hl; subst hl
    exact h
  | cons i r ih =>
    intro l fuel listed a w hf hl hs h
    simp only [forcedRun, Bool.and_eq_true, beq_iff_eq] at hf
    cases l with
    | nil => simp at hl
    | cons o l =>
      simp only [List.map_cons, List.cons.injEq] at hl
      cases o with
      | none => simp at hs
      | some o =>
        simp only [List.filterMap_cons_some (f := id) (a := some o) (b := o) rfl] at h
        refine ⟨fun h0 => absurd (hf.1.1 ▸ h0) (by simp), fun j hj => ?_⟩
        rw [hf.1.1] at hj
        obtain rfl : j = i := by simpa using hj
        have h2 : wpOp P ops Q j (wpList P ops (QR P md ops Q S X fuel (setAll (listed.setIfInBounds j true) r)) (l.filterMap id)) a w := by
          unfold wpOp; simp only [hl.1]; unfold wpList at h; exact wpList_QR h
        exact wpOp_mono (fun a' w' h' => ⟨fun hx => by rw [hf.1.2] at hx; simp at hx, ih l fuel hf.2 hl.2 (by simpa using hs) h'⟩) h2

theorem wp_region_X (S : World → Prop) (X : List Nat) {id : Nat} {l : List Oper} {a : Act} {w : World} (hm : P.follows .mixedOrders = true)
    (h : wpAnyX P .any l.toArray Q S X l.length (Array.replicate l.length false) a w.drew) : (Code.region id l.toArray true).wp P Q a w :=
  wp_region_any hm (wpAny_of_X _ _ _ _ (by simpa using h))
end
theorem cells3 {w : World} {x : Nat} {c0 c1 c2 : Value} {t : TypeId} (h : Blk w x #[c0, c1, c2] t) : w.cell? ⟨x, 0, none⟩ = some c0 ∧ w.cell? ⟨x, 1, none⟩ = some c1 ∧ w.cell? ⟨x, 2, none⟩ = some c2 := ⟨h.cell 0, h.cell 1, h.cell 2⟩
end Go.Proofs.YtokbjopmfcggdaaGreat
