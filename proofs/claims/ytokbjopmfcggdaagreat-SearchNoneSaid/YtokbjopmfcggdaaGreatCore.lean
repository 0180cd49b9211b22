/- Core expressions: what they are in memory; the small functions over them. -/
import Derived.Test.YtokbjopmfcggdaaGreatGr3
import Derived.Deep.LoopGhost
import Derived.Deep.DeepCutAuto
import Derived.Deep.CutRange
namespace Go.Proofs.YtokbjopmfcggdaaGreat
open Go.RowKit
set_option linter.unusedVariables false
set_option linter.unusedSimpArgs false
set_option linter.unnecessarySimpa false

inductive Core where
  | mk (kind n : Int) (args : List Core)

def Core.kind : Core → Int | .mk k _ _ => k
def Core.n : Core → Int | .mk _ n _ => n
def Core.args : Core → List Core | .mk _ _ a => a

mutual
def csize : Core → Nat
  | .mk _ _ a => 1 + csizes a
def csizes : List Core → Nat
  | [] => 0
  | c :: r => csize c + csizes r
end

mutual
def CoreAt (S : Nat → Prop) (w : World) : Core → Value → Prop
  | .mk k n a, v => ∃ sv xs, v = .agg #[.int .i64 k, .int .i64 n, sv] ∧ RowAt S w 3 sv a.length xs ∧ CoresAt S w a xs
def CoresAt (S : Nat → Prop) (w : World) : List Core → List Value → Prop
  | [], xs => xs = []
  | c :: r, xs => ∃ x0 x1 x2 rest, xs = x0 :: x1 :: x2 :: rest ∧ CoreAt S w c (.agg #[x0, x1, x2]) ∧ CoresAt S w r rest
end

mutual
theorem CoreAt.keep {S : Nat → Prop} {w w' : World} (hf : Fix S w w') : ∀ (c : Core) (v : Value), CoreAt S w c v → CoreAt S w' c v
  | .mk k n a, v, h => by
    unfold CoreAt at h ⊢
    obtain ⟨sv, xs, hv, hr, ha⟩ := h
    exact ⟨sv, xs, hv, hr.keep hf, CoresAt.keep hf a xs ha⟩
theorem CoresAt.keep {S : Nat → Prop} {w w' : World} (hf : Fix S w w') : ∀ (a : List Core) (xs : List Value), CoresAt S w a xs → CoresAt S w' a xs
  | [], xs, h => by unfold CoresAt at h ⊢; exact h
  | c :: r, xs, h => by
    unfold CoresAt at h ⊢
    obtain ⟨x0, x1, x2, rest, hx, h1, h2⟩ := h
    exact ⟨x0, x1, x2, rest, hx, CoreAt.keep hf c _ h1, CoresAt.keep hf r rest h2⟩
end

mutual
theorem CoreAt.mono {S S' : Nat → Prop} {w : World} (hs : ∀ b, S b → S' b) : ∀ (c : Core) (v : Value), CoreAt S w c v → CoreAt S' w c v
  | .mk k n a, v, h => by
    unfold CoreAt at h ⊢
    obtain ⟨sv, xs, hv, hr, ha⟩ := h
    exact ⟨sv, xs, hv, hr.mono hs, CoresAt.mono hs a xs ha⟩
theorem CoresAt.mono {S S' : Nat → Prop} {w : World} (hs : ∀ b, S b → S' b) : ∀ (a : List Core) (xs : List Value), CoresAt S w a xs → CoresAt S' w a xs
  | [], xs, h => by unfold CoresAt at h ⊢; exact h
  | c :: r, xs, h => by
    unfold CoresAt at h ⊢
    obtain ⟨x0, x1, x2, rest, hx, h1, h2⟩ := h
    exact ⟨x0, x1, x2, rest, hx, CoreAt.mono hs c _ h1, CoresAt.mono hs r rest h2⟩
end

/-- The expression at a place of a row. -/
theorem CoresAt.at_ {S : Nat → Prop} {w : World} : ∀ (a : List Core) (xs : List Value) (_ : CoresAt S w a xs) (i : Nat) (c : Core) (_ : a[i]? = some c),
    ∃ k n sv, xs[i * 3]? = some (.int .i64 k) ∧ xs[i * 3 + 1]? = some (.int .i64 n) ∧ xs[i * 3 + 2]? = some sv ∧ CoreAt S w c (.agg #[.int .i64 k, .int .i64 n, sv])
  | [], xs, h, i, c, hi => by simp at hi
  | c0 :: r, xs, h, i, c, hi => by
    unfold CoresAt at h
    obtain ⟨x0, x1, x2, rest, rfl, h1, h2⟩ := h
    cases i with
    | zero =>
      simp at hi
      subst hi
      have h3 := h1
      cases c0 with
      | mk k n a =>
        unfold CoreAt at h3
        obtain ⟨sv, xs, hv, _⟩ := h3
        injection hv with hv
        simp at hv
        obtain ⟨rfl, rfl, rfl⟩ := hv
        exact ⟨k, n, x2, rfl, rfl, rfl, h1⟩
    | succ i =>
      obtain ⟨k, n, sv, e0, e1, e2, e3⟩ := CoresAt.at_ r rest h2 i c (by simpa using hi)
      have e : (i + 1) * 3 = i * 3 + 3 := by omega
      exact ⟨k, n, sv, by rw [e]; simpa using e0, by rw [e]; simpa [Nat.add_right_comm] using e1, by rw [e]; simpa [Nat.add_right_comm] using e2, e3⟩

/-- A value that is an expression: its parts. -/
theorem CoreAt.form {S : Nat → Prop} {w : World} {c : Core} {v : Value} (h : CoreAt S w c v) :
    ∃ base cap, v = .agg #[.int .i64 c.kind, .int .i64 c.n, .slice base c.args.length cap] ∧ c.args.length ≤ cap ∧ cap ≤ maxLen := by
  cases c with
  | mk k n a =>
    unfold CoreAt at h
    obtain ⟨sv, xs, hv, hr, _⟩ := h
    obtain ⟨base, cap, rfl, h1, h2, _⟩ := hr.form
    exact ⟨base, cap, hv, h1, h2⟩
/-- Its arguments, where there is one: the cells. -/
theorem CoreAt.arg {S : Nat → Prop} {w : World} {c : Core} {x0 x1 : Value} {base : Option Addr} {n cap : Nat} (h : CoreAt S w c (.agg #[x0, x1, .slice base n cap])) {i : Nat} {x : Core} (hi : c.args[i]? = some x) :
    ∃ g off k m sv, base = some ⟨g, off, none⟩ ∧ S g ∧ g < w.heap.size ∧ w.cell? ⟨g, off + i * 3, none⟩ = some (.int .i64 k) ∧ w.cell? ⟨g, off + i * 3 + 1, none⟩ = some (.int .i64 m) ∧ w.cell? ⟨g, off + i * 3 + 2, none⟩ = some sv ∧ CoreAt S w x (.agg #[.int .i64 k, .int .i64 m, sv]) := by
  cases c with
  | mk k0 n0 a =>
    unfold CoreAt at h
    obtain ⟨sv, xs, hv, hr, ha⟩ := h
    injection hv with hv
    simp at hv
    obtain ⟨rfl, rfl, rfl⟩ := hv
    simp only [Core.args] at hi
    obtain ⟨k, m, sv', e0, e1, e2, e3⟩ := CoresAt.at_ a xs ha i x hi
    have hlt := (List.getElem?_eq_some_iff.1 hi).1
    obtain ⟨g, off, cap', hv, _, _, hS, hg, hc⟩ := hr.cells (by omega)
    injection hv with hv
    exact ⟨g, off, k, m, sv', hv, hS, hg, hc _ _ e0, by simpa [Nat.add_assoc] using hc _ _ e1, by simpa [Nat.add_assoc] using hc _ _ e2, e3⟩
theorem CoreAt.len {S : Nat → Prop} {w : World} {c : Core} {x0 x1 : Value} {base : Option Addr} {n cap : Nat} (h : CoreAt S w c (.agg #[x0, x1, .slice base n cap])) : n = c.args.length := by
  obtain ⟨b, cp, hv, _⟩ := h.form
  injection hv with hv
  simp at hv
  exact hv.2.2.2.1

theorem CoreAt.slice {S : Nat → Prop} {w : World} {c : Core} {x0 x1 sv : Value} (h : CoreAt S w c (.agg #[x0, x1, sv])) : ∃ base cap, sv = .slice base c.args.length cap := by
  obtain ⟨b, cp, hv, _⟩ := h.form
  injection hv with hv
  simp at hv
  exact ⟨b, cp, hv.2.2⟩
theorem drop_cons {α : Type} {a : List α} {i : Nat} {x : α} (h : a[i]? = some x) : a.drop i = x :: a.drop (i + 1) := by
  obtain ⟨hlt, rfl⟩ := List.getElem?_eq_some_iff.1 h
  exact List.drop_eq_getElem_cons hlt
theorem csize_eq (c : Core) : csize c = 1 + csizes c.args := by cases c; simp [csize, Core.args]
theorem csizes_at : ∀ (a : List Core) (i : Nat) (x : Core), a[i]? = some x → csize x + csizes (a.take i) + csizes (a.drop (i + 1)) = csizes a
  | [], i, x, h => by simp at h
  | c :: r, i, x, h => by
    cases i with
    | zero => simp at h; subst h; simp [csizes]
    | succ i =>
      have := csizes_at r i x (by simpa using h)
      simp only [List.take_succ_cons, List.drop_succ_cons, csizes]
      omega
theorem csizes_len : ∀ (a : List Core), a.length ≤ csizes a
  | [] => by simp [csizes]
  | c :: r => by have := csizes_len r; have := csize_eq c; simp only [List.length_cons, csizes]; omega
theorem csize_arg {c x : Core} {i : Nat} (h : c.args[i]? = some x) : csize x < csize c := by
  have := csizes_at c.args i x h
  have := csize_eq c
  omega
theorem csize_len (c : Core) : c.args.length < csize c := by have := csizes_len c.args; have := csize_eq c; omega
theorem csize_pos (c : Core) : 1 ≤ csize c := by have := csize_eq c; omega

/-! ### parts, kind -/
def partsK (k : Int) (m : Nat) : Bool :=
  if k = 1 ∨ k = 5 then m == 0
  else if k = 2 ∨ k = 3 ∨ k = 4 then true
  else if k = 6 ∨ k = 7 ∨ k = 8 ∨ k = 9 then m == 2
  else if k = 10 then m == 1
  else false
def partsC (c : Core) : Bool := partsK c.kind c.args.length
def kindK (k : Int) : Int := if k = 5 then 6 else if k = 2 then 1 else if k = 3 then 2 else if k = 4 then 8 else if k = 6 then 9 else if k = 8 then 10 else 3
def RetBool (w : World) (b : Bool) (e : Ending) (w' : World) : Prop := e = .returned (.bool b) ∧ Keeps [] w w'
def RetInt (w : World) (n : Int) (e : Ending) (w' : World) : Prop := e = .returned (.int .i64 n) ∧ Keeps [] w w'
theorem RetBool.mk {w w' : World} {a b : Bool} (h : a = b) (k : Keeps [] w w') : RetBool w b (.returned (.bool a)) w' := ⟨by rw [h], k⟩
theorem RetInt.mk {w w' : World} {a b : Int} (h : a = b) (k : Keeps [] w w') : RetInt w b (.returned (.int .i64 a)) w' := ⟨by rw [h], k⟩

theorem build_parts {S : Nat → Prop} {w : World} {c : Core} {v : Value} (h : CoreAt S w c v) : Calls Tryz.prog 101 #[v] w (RetBool w (partsC c)) := by
  obtain ⟨base, cap, rfl, hc1, hc2⟩ := h.form
  clear h
  unfold partsC
  generalize c.kind = k at *
  generalize c.n = n at *
  generalize c.args.length = m at *
  go_enter Tryz.func101, Tryz.ntmps101
  go_wp2
  all_goals go_ret
  all_goals refine RetBool.mk ?_ ((Keeps.refl _ _).alloc _)
  all_goals (clear hc1 hc2; unfold partsK; simp only [beq_iff_eq, beq_eq_false_iff_ne, ne_eq] at *)
  all_goals first | (subst k; simp; done) | (subst k; simp; omega) | (simp_all; done) | (rw [Bool.eq_iff_iff]; simp_all; omega) | (rw [Bool.eq_iff_iff]; simp_all)

theorem build_kind {S : Nat → Prop} {w : World} {c : Core} {v : Value} (h : CoreAt S w c v) : Calls Tryz.prog 86 #[v] w (RetInt w (kindK c.kind)) := by
  obtain ⟨base, cap, rfl, hc1, hc2⟩ := h.form
  clear h
  generalize c.kind = k at *
  generalize c.n = n at *
  generalize c.args.length = m at *
  go_enter Tryz.func86, Tryz.ntmps86
  go_wp2
  all_goals go_ret
  all_goals refine RetInt.mk ?_ ((Keeps.refl _ _).alloc _)
  all_goals (clear hc1 hc2; unfold kindK; simp only [beq_iff_eq, beq_eq_false_iff_ne, ne_eq] at *)
  all_goals first | (subst k; simp; done) | (simp_all; done)

/-! ### Need: a sum over the tree -/
mutual
def need : Core → Nat
  | .mk k _ a => (if k = 1 ∨ k = 9 then 0 else 1) + needs a
def needs : List Core → Nat
  | [] => 0
  | c :: r => need c + needs r
end
theorem need_eq (c : Core) : need c = (if c.kind = 1 ∨ c.kind = 9 then 0 else 1) + needs c.args := by cases c; rw [need]; rfl
theorem needs_snoc (a : List Core) (x : Core) : needs (a ++ [x]) = needs a + need x := by induction a with | nil => simp [needs] | cons c r ih => simp [needs, ih]; omega
theorem take_snoc' {α : Type} {a : List α} {i : Nat} {x : α} (h : a[i]? = some x) : a.take (i + 1) = a.take i ++ [x] := by
  obtain ⟨hlt, rfl⟩ := List.getElem?_eq_some_iff.1 h
  exact List.take_succ_eq_append_getElem hlt
mutual
theorem need_le : ∀ c : Core, need c ≤ csize c
  | .mk k n a => by unfold need csize; have := needs_le a; split <;> omega
theorem needs_le : ∀ a : List Core, needs a ≤ csizes a
  | [] => by simp [needs, csizes]
  | c :: r => by unfold needs csizes; have := need_le c; have := needs_le r; omega
end
theorem needs_take (a : List Core) (i : Nat) : needs (a.take i) ≤ needs a := by
  induction a generalizing i with
  | nil => simp [needs]
  | cons c r ih => cases i with | zero => simp [needs] | succ i => simp only [List.take_succ_cons, needs]; have := ih i; omega

/-- What the walk of a loop over an expression's arguments is told. -/
theorem CoreAt.step {S : Nat → Prop} {w wr : World} {c : Core} {x0 x1 : Value} {base : Option Addr} {n cap : Nat} (h : CoreAt S w c (.agg #[x0, x1, .slice base n cap])) (hf : Fix S w wr) {i : Nat} (hi : i < n) :
    ∃ g off k m sv x, base = some ⟨g, off, none⟩ ∧ c.args[i]? = some x ∧ S g ∧ g < wr.heap.size ∧ wr.cell? ⟨g, off + i * 3, none⟩ = some (.int .i64 k) ∧ wr.cell? ⟨g, off + i * 3 + 1, none⟩ = some (.int .i64 m) ∧ wr.cell? ⟨g, off + i * 3 + 2, none⟩ = some sv ∧ CoreAt S wr x (.agg #[.int .i64 k, .int .i64 m, sv]) := by
  have hl := h.len
  have h' := CoreAt.keep hf c _ h
  have hx : c.args[i]? = some c.args[i] := List.getElem?_eq_getElem (by omega)
  obtain ⟨g, off, k, m, sv, hb, hS, hg, e0, e1, e2, e3⟩ := h'.arg hx
  exact ⟨g, off, k, m, sv, _, hb, hx, hS, hg, e0, e1, e2, e3⟩

def NeedSaid (N : Nat) : Prop := ∀ (S : Nat → Prop) (w : World) (c : Core) (v : Value), csize c ≤ N → N ≤ 1048576 → CoreAt S w c v → (∀ b, S b → b < w.heap.size) → Calls Tryz.prog 63 #[v] w (RetInt w (need c : Nat))
set_option maxHeartbeats 1000000 in
theorem build_need : ∀ N, NeedSaid N := by
  intro N
  induction N with
  | zero => intro S w c v hN _ _ _; have := csize_pos c; omega
  | succ N IH =>
    intro S w c v hN hN2 h hS
    obtain ⟨base, cap, rfl, hc1, hc2⟩ := h.form
    have hlen := csize_len c
    have HE := Lib.hid (need_eq c)
    have HH := Lib.hid (And.intro h hS)
    have hd : ∃ d0 : Nat, d0 ≤ 1 ∧ (if c.kind = 1 ∨ c.kind = 9 then 0 else 1) = d0 := ⟨_, by split <;> omega, rfl⟩
    obtain ⟨d0, hd1, hd⟩ := hd
    have HD := Lib.hid hd
    have hn1 := need_le c
    have hn2 : needs c.args + d0 = need c := by have := need_eq c; omega
    have HN := Lib.hid hn2
    have hn3 : needs c.args ≤ 1048576 := by omega
    clear h hS hd hn2
    generalize hk : c.kind = k at *
    generalize hm : c.args.length = m at *
    have HKM := Lib.hid (And.intro hk hm)
    clear hk hm
    unfold maxLen at hc2
    have hcase : (k = 1 ∧ d0 = 1 - 1) ∨ ((k == 1) = false ∧ k = 9 ∧ d0 = 1 - 1) ∨ ((k == 1) = false ∧ (k == 9) = false ∧ d0 = 1) := by
      have h := HD.out
      by_cases h1 : k = 1
      · rw [if_pos (.inl h1)] at h; exact .inl ⟨h1, by omega⟩
      · by_cases h9 : k = 9
        · rw [if_pos (.inr h9)] at h; exact .inr (.inl ⟨by simp [h1], h9, by omega⟩)
        · rw [if_neg (by omega)] at h; exact .inr (.inr ⟨by simp [h1], by simp [h9], by omega⟩)
    clear HD
    rcases hcase with ⟨rfl, rfl⟩ | ⟨q1, rfl, rfl⟩ | ⟨q1, q2, rfl⟩
    all_goals
      go_enter Tryz.func63, Tryz.ntmps63
      go_wp2
      go_loopg [3, 17] m (fun q s3 s17 wr => ∃ i : Nat, i ≤ m ∧ q = m - i ∧ (∃ z : Nat, s3 = .int .i64 (z : Nat) ∧ z + needs (c.args.drop i) = need c) ∧ s17 = .int .i64 (i : Nat) ∧ Keeps [] w wr)
      case atStart => exact ⟨0, Nat.zero_le _, rfl, ⟨_, rfl, by simp only [List.drop_zero]; have := HN.out; omega⟩, rfl, (Keeps.refl _ _).alloc _⟩
      case round =>
        obtain ⟨i, hi, rfl, ⟨z, rfl, hz⟩, rfl, hK⟩ := hrel
        by_cases hlt : i < m
        · obtain ⟨h, hS⟩ := HH.out
          obtain ⟨g, off, k1, m1, sv, x, rfl, hx, hSg, hg, e0, e1, e2, hx3⟩ := h.step (hK.fix (fun b hb => ⟨hS b hb, by simp⟩)) hlt
          have hsn : needs (c.args.drop i) = need x + needs (c.args.drop (i + 1)) := by rw [drop_cons hx, needs]
          have hz2 : z ≤ 1048576 := by omega
          have hz3 : need x ≤ 1048576 := by omega
          have HZ := Lib.hid (show z + need x + needs (c.args.drop (i + 1)) = need c by omega)
          have hC := fun o => IH S (wr.alloc o) x _ (by have := csize_arg hx; omega) (by omega) (CoreAt.keep (fun b hb => Below.heap_alloc _ _ _ (Nat.lt_of_lt_of_le (hS b hb) hK.size)) _ _ hx3) (fun b hb => by have := hS b hb; have := hK.size; simp; omega)
          have HC := Lib.hid hC
          have HK := Lib.hid hK
          have hs2 := hK.size
          obtain ⟨sb, sc, hsv⟩ := hx3.slice
          clear h hS hx hx3 hsn hz hC hK
          subst hsv
          go_wp2_with (go_at_call 63; refine (HC.out _).mono ?_; rintro e w1 ⟨rfl, hk1⟩; have HK1 := Lib.hid hk1; clear hk1)
          go_roundg (m - (i + 1))
          case measure => omega
          case rel => exact ⟨i + 1, by omega, rfl, ⟨z + need x, by go_num, HZ.out⟩, by go_num, ((HK.out.alloc _).trans0 HK1.out)⟩
        · obtain rfl : i = m := by omega
          have hz0 : z = need c := by rw [← HKM.out.2] at hz; simp [needs] at hz; omega
          go_wp2
          go_ret
          exact RetInt.mk (by rw [hz0]) hK

end Go.Proofs.YtokbjopmfcggdaaGreat
