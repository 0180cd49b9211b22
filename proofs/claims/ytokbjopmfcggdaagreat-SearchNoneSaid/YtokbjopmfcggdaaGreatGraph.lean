/- A graph of nodes: what it is, as a list of places; its methods. -/
import Derived.Test.YtokbjopmfcggdaaGreatNode
namespace Go.Proofs.YtokbjopmfcggdaaGreat
open Go.RowKit
set_option linter.unusedVariables false
set_option linter.unusedSimpArgs false
set_option linter.unnecessarySimpa false

theorem ret_bool {x y : Bool} (h : x = y) : Ending.returned (.bool y) = Ending.returned (.bool x) := by rw [h]
/-! ### arena.Get, Set, Free -/
def getA (A : Ar) (i : Int) : Int × Int × Value := if hasB A.u i = true then A.l.getD i.toNat (0, 0, .slice none 0 0) else (0, 0, .slice none 0 0)
def GetPost (w : World) (A : Ar) (i : Int) (e : Ending) (w' : World) : Prop :=
  e = .returned (.tuple #[.agg #[.int .i64 (getA A i).1, .int .i64 (getA A i).2.1, (getA A i).2.2], .bool (hasB A.u i)]) ∧ Keeps [] w w'

theorem hasB_lt {u : List Bool} {i : Int} (h : hasB u i = true) : ∃ k : Nat, i = k ∧ k < u.length ∧ u.getD k false = true := by
  unfold hasB at h
  simp only [Bool.and_eq_true, decide_eq_true_eq] at h
  refine ⟨i.toNat, by omega, ?_, h.2⟩
  rcases Nat.lt_or_ge i.toNat u.length with h1 | h1
  · exact h1
  · rw [List.getD_eq_getElem?_getD, List.getElem?_eq_none h1] at h; simp at h

theorem arena_get {w : World} {b : Nat} {vl vu : Value} {A : Ar} (h : ArAt w b vl vu A) (ok : A.Ok) (i : Int) :
    Calls Tryz.prog 69 #[.pointer (some ⟨b, 0, none⟩), .int .i64 i] w (GetPost w A i) := by
  have hsmall : A.u.length ≤ 65536 := Nat.le_trans ok.size ok.most
  have hA : ∀ o o' : Obj, ArAt ((w.alloc o).alloc o') b vl vu A := fun o o' => h.keep0 (((Keeps.refl _ _).alloc _).alloc _)
  by_cases hh : hasB A.u i = true
  · obtain ⟨m, rfl, hm, hum⟩ := hasB_lt hh
    obtain ⟨gl, cl, gu, cu, k0, n0, v0, rfl, hcl, rfl, hcu, hclm, hcum, hx, f0, f1, f2, f3, z0, z1, n1, n2, n3⟩ := h.at_ ok.len hm
    have hget : getA A (m : Int) = (k0, n0, v0) := by unfold getA; rw [if_pos hh]; simp [List.getD_eq_getElem?_getD, hx]
    have c0 := h.blk.cell 0
    have s0 := World.block_lt_of_cell? w _ f0
    have s1 := h.blk.lt
    obtain ⟨sb, sl, sc, rfl⟩ : ∃ base len cap, v0 = .slice base len cap := ok.sl (k0, n0, v0) (List.mem_of_getElem? hx)
    simp only at s0
    have HH := Lib.hid (And.intro hget hh)
    clear hget hx
    go_enter Tryz.func69, Tryz.ntmps69
    go_wp2_with (first | (go_at_call 88; refine (arena_has (hA _ _) hsmall (m : Int)).mono ?_; rintro e w' ⟨rfl, rfl⟩))
    refine bodyPost_ret (v := .tuple #[.agg #[.int .i64 k0, .int .i64 n0, .slice sb sl sc], .bool true]) (by simp [results, Tryz.results69, go_sem]) rfl ?_
    obtain ⟨hget, hh⟩ := HH.out
    refine ⟨by rw [hget, hh], ?_⟩
    repeat (first | exact Keeps.refl _ _ | apply Keeps.alloc | apply Keeps.drew)
  · have hf : hasB A.u i = false := by simpa using hh
    have hget : getA A i = (0, 0, .slice none 0 0) := by unfold getA; rw [if_neg hh]
    have HH := Lib.hid (And.intro hget hf)
    clear hget hh
    go_enter Tryz.func69, Tryz.ntmps69
    go_wp2_with (first | (go_at_call 88; refine (arena_has (hA _ _) hsmall i).mono ?_; rintro e w' ⟨rfl, rfl⟩))
    refine bodyPost_ret (v := .tuple #[.agg #[.int .i64 0, .int .i64 0, .slice none 0 0], .bool false]) (by simp [results, Tryz.results69, go_sem]) rfl ?_
    obtain ⟨hget, hh⟩ := HH.out
    refine ⟨by rw [hget, hh], ?_⟩
    repeat (first | exact Keeps.refl _ _ | apply Keeps.alloc | apply Keeps.drew)

def Ar.set (A : Ar) (m : Nat) (x : Int × Int × Value) : Ar := { A with l := A.l.set m x, u := A.u.set m true }
def SetPost (w : World) (b : Nat) (vl vu : Value) (A : Ar) (i : Int) (x : Int × Int × Value) (e : Ending) (w' : World) : Prop :=
  e = .returned (.bool (hasB A.u i)) ∧ ((hasB A.u i = false ∧ Keeps [] w w') ∨ (hasB A.u i = true ∧ ArAt w' b vl vu { A with l := A.l.set i.toNat x } ∧ Keeps (foot b vl vu) w w'))
set_option maxHeartbeats 1000000 in
theorem arena_set {w : World} {b : Nat} {vl vu : Value} {A : Ar} (h : ArAt w b vl vu A) (ok : A.Ok) (i : Int) (k n : Int) (sv : Value) (hsv : ∃ base len cap, sv = .slice base len cap) :
    Calls Tryz.prog 127 #[.pointer (some ⟨b, 0, none⟩), .int .i64 i, .agg #[.int .i64 k, .int .i64 n, sv]] w (SetPost w b vl vu A i (k, n, sv)) := by
  obtain ⟨tb, tl, tc, rfl⟩ := hsv
  have hsmall : A.u.length ≤ 65536 := Nat.le_trans ok.size ok.most
  have hA : ∀ o : Obj, ArAt (w.alloc o) b vl vu A := fun o => h.keep0 ((Keeps.refl _ _).alloc _)
  by_cases hh : hasB A.u i = true
  · obtain ⟨m, rfl, hm, hum⟩ := hasB_lt hh
    obtain ⟨gl, cl, gu, cu, k0, n0, v0, rfl, hcl, rfl, hcu, hclm, hcum, hx, f0, f1, f2, f3, z0, z1, n1, n2, n3⟩ := h.at_ ok.len hm
    have c0 := h.blk.cell 0
    have s0 := World.block_lt_of_cell? w _ f0
    have s1 := h.blk.lt
    simp only at s0
    have HH := Lib.hid hh
    have HO := Lib.hid ok.len
    clear hx
    go_enter Tryz.func127, Tryz.ntmps127
    go_wp2_with (first | (go_at_call 88; refine (arena_has (hA _) hsmall (m : Int)).mono ?_; rintro e w' ⟨rfl, rfl⟩))
    go_region
    go_wp2
    go_ret
    refine ⟨ret_bool HH.out, .inr ⟨HH.out, ?_, ?_⟩⟩
    · exact ((h.setSlot m (by rw [HO.out]; exact hm) k n (.slice tb tl tc)).keep0 ((Keeps.refl _ _).alloc _)).drew
    · have k0 : Keeps (foot b (.slice (some ⟨gl, 0, none⟩) A.u.length cl) (.slice (some ⟨gu, 0, none⟩) A.u.length cu)) w w := Keeps.refl _ _
      exact ((((k0.setCell (p := ⟨gl, _, none⟩) (.inl mem_foot_l) _).setCell (p := ⟨gl, _, none⟩) (.inl mem_foot_l) _).setCell (p := ⟨gl, _, none⟩) (.inl mem_foot_l) _).alloc _).drew
  · have hf : hasB A.u i = false := by simpa using hh
    have HH := Lib.hid hf
    clear hh
    go_enter Tryz.func127, Tryz.ntmps127
    go_wp2_with (first | (go_at_call 88; refine (arena_has (hA _) hsmall i).mono ?_; rintro e w' ⟨rfl, rfl⟩))
    go_ret
    exact ⟨ret_bool HH.out, .inl ⟨HH.out, (Keeps.refl _ _).alloc _⟩⟩

end Go.Proofs.YtokbjopmfcggdaaGreat
