/- Arena.Put. -/
import Derived.Test.YtokbjopmfcggdaaGreatArena
import Derived.Test.YtokbjopmfcggdaaGreatRegion
import Derived.Deep.LoopGhost
import Derived.Deep.DeepCutAuto
import Derived.Deep.CutRange
namespace Go.Proofs.YtokbjopmfcggdaaGreat
open Go.RowKit
set_option linter.unusedVariables false
set_option linter.unusedSimpArgs false
set_option linter.unnecessarySimpa false

def Ar.put (A : Ar) (i : Nat) (x : Int × Int × Value) : Ar := { A with l := putAt A.l i x, u := putAt A.u i true, n := A.n + 1, low := i }

/-- Room, or not. -/
def PutPost (w : World) (b : Nat) (vl vu : Value) (A : Ar) (x : Int × Int × Value) (e : Ending) (w' : World) : Prop :=
  (A.n = A.most ∧ e = .returned (.tuple #[.int .i64 0, .bool false]) ∧ Keeps [] w w') ∨
  (A.n < A.most ∧ ∃ i vl' vu', i ≤ A.u.length ∧ A.u.getD i false = false ∧ A.low ≤ i ∧ (∀ j, j < i → A.u.getD j false = true) ∧ e = .returned (.tuple #[.int .i64 (i : Nat), .bool true]) ∧
    ArAt w' b vl' vu' (A.put i x) ∧ Keeps (foot b vl vu) w w' ∧ ∀ z ∈ foot b vl' vu', z ∈ foot b vl vu ∨ w.heap.size ≤ z)

theorem Tryz.info35 : (Tryz.prog.info? 79).map (fun i => (i.zero, i.size, i.bytes)) = some (some (.agg #[.int .i64 0, .int .i64 0, .slice none 0 0]), 3, 40) := by kernel_rfl
theorem Tryz.info4 : (Tryz.prog.info? 4).map (fun i => (i.zero, i.size, i.bytes)) = some (some (.bool false), 1, 1) := by kernel_rfl
theorem Tryz.info3 : (Tryz.prog.info? 3).map (fun i => (i.zero, i.size, i.bytes)) = some (some (.int .i64 0), 1, 8) := by kernel_rfl

theorem mem_foot {b : Nat} {vl vu : Value} : b ∈ foot b vl vu := by simp [foot]
theorem foot_l {b x : Nat} {vl vu : Value} (h : vl.ownBlock = some x) : x ∈ foot b vl vu := by simp [foot, h]
theorem foot_u {b x : Nat} {vl vu : Value} (h : vu.ownBlock = some x) : x ∈ foot b vl vu := by simp [foot, h]
theorem mem_foot_l {b g n c : Nat} {vu : Value} : g ∈ foot b (.slice (some ⟨g, 0, none⟩) n c) vu := by simp [foot, Value.ownBlock]
theorem mem_foot_u {b g n c : Nat} {vl : Value} : g ∈ foot b vl (.slice (some ⟨g, 0, none⟩) n c) := by simp [foot, Value.ownBlock]

theorem count_set_true {u : List Bool} {m : Nat} (hm : m < u.length) (h : u.getD m false = false) : (u.set m true).count true = u.count true + 1 := by
  induction u generalizing m with
  | nil => simp at hm
  | cons a u ih =>
    cases m with
    | zero => simp at h; subst h; simp
    | succ m =>
      have := ih (m := m) (by simpa using hm) (by simpa using h)
      simp only [List.set_cons_succ, List.count_cons, this]; omega
theorem putAt_lt {α : Type} {l : List α} {i : Nat} {x : α} (h : i < l.length) : putAt l i x = l.set i x := by unfold putAt; rw [if_pos h]
theorem putAt_len {α : Type} {l : List α} {x : α} : putAt l l.length x = l ++ [x] := by unfold putAt; rw [if_neg (by omega)]

theorem Ar.Ok.put {A : Ar} (h : A.Ok) {i : Nat} (x : Int × Int × Value) (hx : ∃ base n cap, x.2.2 = Value.slice base n cap) (hi : i ≤ A.u.length) (hf : A.u.getD i false = false) (hb : ∀ j, j < i → A.u.getD j false = true) (hn : A.n < A.most) : (A.put i x).Ok := by
  have hl := h.len
  have hcn := h.n
  have hs := h.size
  rcases Nat.lt_or_ge i A.u.length with h1 | h1
  · refine ⟨?_, ?_, ?_, ?_, ?_, h.most, ?_⟩
    · simp only [Ar.put]; rw [putAt_lt h1, putAt_lt (by omega)]; simpa using hl
    · simp only [Ar.put]; rw [putAt_lt h1, count_set_true h1 hf, hcn]
    · intro j hj; simp only [Ar.put] at hj ⊢; rw [putAt_lt h1]
      have := hb j hj
      rw [List.getD_eq_getElem?_getD] at this ⊢
      rw [List.getElem?_set_ne (by omega)]; exact this
    · simp only [Ar.put]; rw [putAt_lt h1]; simp; omega
    · simp only [Ar.put]; rw [putAt_lt h1]; simpa using hs
    · simp only [Ar.put]; rw [putAt_lt (by omega)]; intro y hy; rcases List.mem_or_eq_of_mem_set hy with h2 | rfl; exact h.sl y h2; exact hx
  · obtain rfl : i = A.u.length := by omega
    have hfull : A.u.count true = A.u.length := by
      rw [List.count_eq_length]
      intro y hy
      obtain ⟨j, hj, rfl⟩ := List.getElem_of_mem hy
      have := hb j hj
      rw [List.getD_eq_getElem?_getD, List.getElem?_eq_getElem hj] at this
      simpa using this.symm
    have e2 : putAt A.l A.u.length x = A.l ++ [x] := by rw [← hl]; exact putAt_len
    refine ⟨?_, ?_, ?_, ?_, ?_, h.most, ?_⟩
    · simp only [Ar.put]; rw [putAt_len, e2]; simp [hl]
    · simp only [Ar.put]; rw [putAt_len]; simp [hcn]
    · intro j hj; simp only [Ar.put] at hj ⊢; rw [putAt_len]
      have := hb j hj
      rw [List.getD_eq_getElem?_getD] at this ⊢
      rw [List.getElem?_append_left hj]; exact this
    · simp only [Ar.put]; rw [putAt_len]; simp
    · simp only [Ar.put]; rw [putAt_len]; simp; omega
    · simp only [Ar.put]; rw [e2]; intro y hy; rcases List.mem_append.1 hy with h2 | h2; exact h.sl y h2; simp at h2; subst h2; exact hx

theorem Ar.put_lt (A : Ar) (hl : A.l.length = A.u.length) {m : Nat} {x : Int × Int × Value} (h : m < A.u.length) : A.put m x = { l := A.l.set m x, u := A.u.set m true, n := A.n + 1, low := m, most := A.most } := by
  simp only [Ar.put]; rw [putAt_lt h, putAt_lt (show m < A.l.length by omega)]
theorem Ar.put_len (A : Ar) (hl : A.l.length = A.u.length) {m : Nat} {x : Int × Int × Value} (h : m = A.u.length) : A.put m x = { l := A.l ++ [x], u := A.u ++ [true], n := A.n + 1, low := m, most := A.most } := by
  subst h
  simp only [Ar.put]; rw [putAt_len, show putAt A.l A.u.length x = A.l ++ [x] from by rw [← hl]; exact putAt_len]

theorem cells5 {w : World} {b x : Nat} {c0 c1 c5 c6 c7 c2 c3 c4 : Value} {t t' : TypeId} (h : Blk w b #[c0, c1, c5, c6, c7] t) (h' : Blk w x #[c2, c3, c4] t') : w.cell? ⟨b, 0, none⟩ = some c0 ∧ w.cell? ⟨b, 1, none⟩ = some c1 ∧ w.cell? ⟨x, 0, none⟩ = some c2 ∧ w.cell? ⟨x, 1, none⟩ = some c3 ∧ w.cell? ⟨x, 2, none⟩ = some c4 :=
  ⟨h.cell 0, h.cell 1, h'.cell 0, h'.cell 1, h'.cell 2⟩

/-- What stands ahead of the last two statements: the place is there. -/
def PutMid (w : World) (b : Nat) (vl vu : Value) (A : Ar) (m : Nat) (k n : Int) (sv : Value) (wx : World) : Prop :=
  ∃ vl' vu' l' u', ArAt wx b vl' vu' { A with l := l', u := u', low := m } ∧ l'.length = u'.length ∧ m < u'.length ∧ u'.length ≤ 65537 ∧ l'.set m (k, n, sv) = putAt A.l m (k, n, sv) ∧ u'.set m true = putAt A.u m true ∧
    Keeps (foot b vl vu) w wx ∧ (∀ z ∈ foot b vl' vu', z ∈ foot b vl vu ∨ w.heap.size ≤ z) ∧ Blk wx w.heap.size #[.int .i64 k, .int .i64 n, sv] 79

theorem foot_new {b gl cl n gu cu m : Nat} {F : List Nat} {B : Nat} (hb : b ∈ F) (hl : gl ∈ F ∨ B ≤ gl) (hu : gu ∈ F ∨ B ≤ gu) : ∀ z ∈ foot b (.slice (some ⟨gl, 0, none⟩) n cl) (.slice (some ⟨gu, 0, none⟩) m cu), z ∈ F ∨ B ≤ z := by
  intro z hz
  simp [foot, Value.ownBlock] at hz
  rcases hz with rfl | rfl | rfl
  · exact .inl hb
  · exact hl
  · exact hu

theorem put_new {w wr w4 : World} {b : Nat} {la ua : Option Addr} {lc uc gl gu cl cu m : Nat} {A : Ar} {k n : Int} {sv : Value} (hA : ArAt wr b (.slice la A.l.length lc) (.slice ua A.u.length uc) { A with low := m }) (ok : A.Ok) (hK : Keeps [b] w wr) (hB : Blk wr w.heap.size #[.int .i64 k, .int .i64 n, sv] 79) (hm : m = A.u.length)
    (h : w4.ownsRow 0 4 1 (.slice (some ⟨gu, 0, none⟩) (A.u.length + 1) cu) (A.u.length + 1) (A.u.map Value.bool ++ [.bool true]) ∧ w4.ownsRow 0 79 3 (.slice (some ⟨gl, 0, none⟩) (A.l.length + 1) cl) (A.l.length + 1) (flat A.l ++ [.int .i64 k, .int .i64 n, sv]) ∧
      Keeps (foot b (.slice la A.l.length lc) (.slice ua A.u.length uc)) wr w4 ∧ Blk w4 b #[.slice la A.l.length lc, .slice ua A.u.length uc, .int .i64 (A.n : Nat), .int .i64 (m : Nat), .int .i64 (A.most : Nat)] 138 ∧ Blk w4 w.heap.size #[.int .i64 k, .int .i64 n, sv] 79 ∧
      (gl ∈ foot b (.slice la A.l.length lc) (.slice ua A.u.length uc) ∨ w.heap.size ≤ gl) ∧ (gu ∈ foot b (.slice la A.l.length lc) (.slice ua A.u.length uc) ∨ w.heap.size ≤ gu)) :
    PutMid w b (.slice la A.l.length lc) (.slice ua A.u.length uc) A m k n sv ((w4.setCell ⟨b, 0, none⟩ (.slice (some ⟨gl, 0, none⟩) (A.l.length + 1) cl)).setCell ⟨b, 1, none⟩ (.slice (some ⟨gu, 0, none⟩) (A.u.length + 1) cu)) := by
  obtain ⟨hu, hl, hk, hb, hx, h1, h2⟩ := h
  have hlen := ok.len
  have hsz := ok.size
  have hmo := ok.most
  have nx : w.heap.size ≠ b := by
    rintro e
    rw [e] at hx
    exact Blk.ne hb hx (by decide) rfl
  refine ⟨.slice (some ⟨gl, 0, none⟩) (A.l.length + 1) cl, .slice (some ⟨gu, 0, none⟩) (A.u.length + 1) cu, A.l ++ [(k, n, sv)], A.u ++ [true], ⟨?_, ?_, ?_⟩, by simp [hlen], by simp [hm], by simp; omega, ?_, ?_, ?_, foot_new mem_foot h1 h2, ?_⟩
  · simpa using (hb.setCell 0 (.slice (some ⟨gl, 0, none⟩) (A.l.length + 1) cl)).setCell 1 (.slice (some ⟨gu, 0, none⟩) (A.u.length + 1) cu)
  · have := ownsRow_setOther (p := ⟨b, 1, none⟩) (ownsRow_setOther (p := ⟨b, 0, none⟩) hl (own_ne hb hl (by decide)) (.slice (some ⟨gl, 0, none⟩) (A.l.length + 1) cl)) (own_ne hb hl (by decide)) (.slice (some ⟨gu, 0, none⟩) (A.u.length + 1) cu)
    simpa [flat_append, flat] using this
  · have := ownsRow_setOther (p := ⟨b, 1, none⟩) (ownsRow_setOther (p := ⟨b, 0, none⟩) hu (own_ne hb hu (by decide)) (.slice (some ⟨gl, 0, none⟩) (A.l.length + 1) cl)) (own_ne hb hu (by decide)) (.slice (some ⟨gu, 0, none⟩) (A.u.length + 1) cu)
    simpa using this
  · subst hm; rw [← hlen, putAt_len]; simp
  · subst hm; rw [putAt_len]; simp
  · exact (((hK.mono (fun x hx => by simp at hx; subst hx; exact .inl mem_foot)).trans hk (fun x hx => .inl hx)).setCell (p := ⟨b, 0, none⟩) (.inl mem_foot) _).setCell (p := ⟨b, 1, none⟩) (.inl mem_foot) _
  · exact (hx.setOther (p := ⟨b, 0, none⟩) nx _).setOther (p := ⟨b, 1, none⟩) nx _

theorem put_end {w wx : World} {b m cl cu gl gu : Nat} {vl vu : Value} {A : Ar} {k n : Int} {sv : Value} (ok : A.Ok) (hn : A.n < A.most) (hml : m ≤ A.u.length) (hu : A.u.getD m false = false) (hm : A.low ≤ m) (hb : ∀ i, i < m → A.u.getD i false = true)
    {l' : List (Int × Int × Value)} {u' : List Bool} (hA : ArAt wx b (.slice (some ⟨gl, 0, none⟩) u'.length cl) (.slice (some ⟨gu, 0, none⟩) u'.length cu) { A with l := l', u := u', low := m }) (h1 : l'.length = u'.length) (h2 : m < u'.length) (h4 : l'.set m (k, n, sv) = putAt A.l m (k, n, sv)) (h5 : u'.set m true = putAt A.u m true)
    (h6 : Keeps (foot b vl vu) w wx) (h7 : ∀ z ∈ foot b (.slice (some ⟨gl, 0, none⟩) u'.length cl) (.slice (some ⟨gu, 0, none⟩) u'.length cu), z ∈ foot b vl vu ∨ w.heap.size ≤ z) :
    PutPost w b vl vu A (k, n, sv) (.returned (.tuple #[.int .i64 (m : Nat), .bool true])) (((((wx.setCell ⟨gl, m * 3, none⟩ (.int .i64 k)).setCell ⟨gl, m * 3 + 1, none⟩ (.int .i64 n)).setCell ⟨gl, m * 3 + 2, none⟩ sv).setCell ⟨gu, m, none⟩ (.bool true)).setCell ⟨b, 2, none⟩ (.int .i64 ((A.n : Int) + 1))).drew := by
  refine .inr ⟨hn, m, _, _, hml, hu, hm, hb, rfl, ?_, ?_, h7⟩
  · have h1 := ((hA.setSlot m (by show m < l'.length; omega) k n sv).setUsed m (by show m < u'.length; omega) true).setN (A.n + 1) (x := (A.n : Int) + 1) (by simp)
    simp only [h4, h5] at h1
    exact h1.drew
  · have f1 := h7 gl mem_foot_l
    have f2 := h7 gu mem_foot_u
    exact (((((h6.setCell (p := ⟨gl, _, none⟩) f1 _).setCell (p := ⟨gl, _, none⟩) f1 _).setCell (p := ⟨gl, _, none⟩) f1 _).setCell (p := ⟨gu, _, none⟩) f2 _).setCell (p := ⟨b, 2, none⟩) (.inl mem_foot) _).drew

set_option maxRecDepth 100000 in
set_option maxHeartbeats 1000000 in
theorem arena_put {w : World} {b : Nat} {vl vu : Value} {A : Ar} (h : ArAt w b vl vu A) (ok : A.Ok) (k n : Int) (sv : Value) (hsv : ∃ base len cap, sv = .slice base len cap) :
    Calls Tryz.prog 103 #[.pointer (some ⟨b, 0, none⟩), .agg #[.int .i64 k, .int .i64 n, sv]] w (PutPost w b vl vu A (k, n, sv)) := by
  obtain ⟨sb, sl, sc, rfl⟩ := hsv
  have hlt := h.blk.lt
  have hnle : A.n ≤ A.most := by rw [ok.n]; exact Nat.le_trans (List.count_le_length) ok.size
  have hcell : ∀ o : Obj, Blk (w.alloc o) b #[vl, vu, .int .i64 (A.n : Nat), .int .i64 (A.low : Nat), .int .i64 (A.most : Nat)] 138 := fun o => h.blk.alloc o
  by_cases hfull : A.n = A.most
  · have hb1 : ((A.n : Int) == (A.most : Int)) = true := by simp [hfull]
    have HF : Hid (A.n = A.most) := hfull
    clear hfull
    go_enter Tryz.func103, Tryz.ntmps103
    go_wp2_with (first | (go_at_call 71; refine (arena_len b _ _ _ _ (hcell _) rfl).mono ?_; rintro e w' ⟨rfl, rfl⟩) | (go_at_call 102; refine (arena_most b _ _ _ _ (hcell _) rfl).mono ?_; rintro e w' ⟨rfl, rfl⟩))
    go_ret2
    exact .inl ⟨HF.out, rfl, (Keeps.refl _ _).alloc _⟩
  have hb1 : ((A.n : Int) == (A.most : Int)) = false := by simp; omega
  have HF : Hid (A.n < A.most) := by show A.n < A.most; omega
  have hn63 : A.n < 65536 := by have := ok.most; have := HF.out; omega
  clear hfull
  go_enter Tryz.func103, Tryz.ntmps103
  go_wp2_with (first | (go_at_call 71; refine (arena_len b _ _ _ _ (hcell _) rfl).mono ?_; rintro e w' ⟨rfl, rfl⟩) | (go_at_call 102; refine (arena_most b _ _ _ _ (hcell _) rfl).mono ?_; rintro e w' ⟨rfl, rfl⟩))
  clear hcell
  go_loopg [] (A.u.length - A.low) (fun c wr => ∃ m, ArAt wr b vl vu { A with low := m } ∧ c = A.u.length - m ∧ A.low ≤ m ∧ m ≤ A.u.length ∧ (∀ i, i < m → A.u.getD i false = true) ∧ Keeps [b] w wr ∧ Blk wr w.heap.size #[.int .i64 k, .int .i64 n, .slice sb sl sc] 79)
  case atStart =>
    exact ⟨A.low, h.keep0 ((Keeps.refl _ _).alloc _), rfl, Nat.le_refl _, ok.low, ok.below, (Keeps.refl _ _).alloc _, Blk.new _ _ _⟩
  case round =>
    obtain ⟨m, hA, rfl, hm, hml, hbe, hK, hB⟩ := hrel
    have hc3 := hA.blk.cell 3
    have hf3 := hA.blk.frozen 3
    have hsmall : A.u.length ≤ 65536 := Nat.le_trans ok.size ok.most
    have HB : Hid (∀ i, i < m → A.u.getD i false = true) := hbe
    clear hbe
    by_cases hu : A.u.getD m false = true
    · have hlen : m < A.u.length := by
        rcases Nat.lt_or_ge m A.u.length with h1 | h1
        · exact h1
        · rw [List.getD_eq_getElem?_getD, List.getElem?_eq_none h1] at hu; simp at hu
      have hh : hasB A.u (m : Int) = true := by simp [hasB]; simpa [List.getD_eq_getElem?_getD] using hu
      have HU : Hid (A.u.getD m false = true) := hu
      clear hu
      go_wp2_with (first | (go_at_call 88; refine (arena_has hA hsmall (m : Int)).mono ?_; rintro e w' ⟨rfl, rfl⟩))
      go_roundg (A.u.length - (m + 1))
      case measure => omega
      case rel =>
        refine ⟨m + 1, ?_, rfl, by omega, by omega, ?_, hK.setCell (by simp) _, ?_⟩
        · simpa using hA.setLow (m + 1) rfl
        · intro i hi
          rcases Nat.lt_or_ge i m with h1 | h1
          · exact HB.out i h1
          · obtain rfl : i = m := by omega
            exact HU.out
        · exact hB.setOther (p := ⟨b, 3, none⟩) (by simp; omega) _
    have hh : hasB A.u (m : Int) = false := by simp [hasB]; simpa [List.getD_eq_getElem?_getD] using hu
    have HU : Hid (A.u.getD m false = false) := Bool.eq_false_iff.2 hu
    clear hu
    have hc1 := hA.blk.cell 1
    obtain ⟨ua, uc, rfl, _⟩ := ownsRow_zero hA.used
    obtain ⟨la, lc, rfl, _⟩ := ownsRow_zero hA.own
    go_upto_if 35 with (first | (go_at_call 88; refine (arena_has hA hsmall (m : Int)).mono ?_; rintro e w' ⟨rfl, rfl⟩))
    go_cut [] (fun wx => PutMid w b (.slice la A.l.length lc) (.slice ua A.u.length uc) A m k n (.slice sb sl sc) wx)
    case first =>
      by_cases hend : m = A.u.length
      · have HE : Hid (m = A.u.length) := hend
        have hb2 : ((m : Int) == (A.u.length : Int)) = true := by simp [hend]
        clear hend
        have hlu' : A.l.length ≤ 65536 := by rw [ok.len]; exact hsmall
        have nlb := own_ne hA.blk hA.own (by decide)
        have nub := own_ne hA.blk hA.used (by decide)
        have nlx : (Value.slice la A.l.length lc).ownBlock ≠ some w.heap.size := fun hh => by have := (h.own.lt _ hh).2; omega
        have nux : (Value.slice ua A.u.length uc).ownBlock ≠ some w.heap.size := fun hh => by have := (h.used.lt _ hh).2; omega
        have nul := own_ne_own hA.used hA.own (by decide)
        obtain ⟨i35, hi35, hz35, hs35, hy35⟩ := info_parts Tryz.info35
        obtain ⟨i4, hi4, hz4, hs4, hy4⟩ := info_parts Tryz.info4
        go_wp2
        have hbb := hA.blk
        have hbx := hB
        have hk : Keeps (foot b (.slice la A.l.length lc) (.slice ua A.u.length uc)) wr wr := Keeps.refl _ _
        have hol := hA.own
        have hou := hA.used
        simp only at hbb hol hou
        refine wp_region_X (fun w' => w'.cell? ⟨b, 0, none⟩ = some (.slice la A.l.length lc) ∧ w'.cell? ⟨b, 1, none⟩ = some (.slice ua A.u.length uc) ∧ w'.cell? ⟨w.heap.size, 0, none⟩ = some (.int .i64 k) ∧ w'.cell? ⟨w.heap.size, 1, none⟩ = some (.int .i64 n) ∧ w'.cell? ⟨w.heap.size, 2, none⟩ = some (.slice sb sl sc)) [1, 9, 10, 11, 15, 16, 17, 18, 19, 20] (by kernel_rfl) ?_
        refine wpAnyX_take0 [1, 9, 10, 11] 17 (by kernel_rfl) (fun _ _ d _ _ h => by cases d <;> exact h) (by kernel_rfl) (by simp only [List.map_cons, List.map_nil, List.getElem?_toArray, List.getElem?_cons_zero, List.getElem?_cons_succ]; rfl) ?_
        repeat (refine SegThen.step (v := ?_) (by rfl) (fun w' hSw => ?_) ?_; rotate_left 1; (focus ((try dsimp only at hSw); go_simp; (try with_reducible rfl))); simp only [Act.put, List.setIfInBounds_toArray, List.set_cons_zero, List.set_cons_succ])
        refine SegThen.nil ?_
        refine wpAnyX_take [0, 2, 3, 4, 5, 6, 12] 10 (by kernel_rfl) (fun _ _ d _ _ h => by cases d <;> exact h) (by kernel_rfl) (by simp only [List.map_cons, List.map_nil, List.getElem?_toArray, List.getElem?_cons_zero, List.getElem?_cons_succ]; rfl) (cells5 hbb hbx) ?_
        repeat (refine SegThen.step (v := ?_) (by rfl) (fun w' hSw => ?_) ?_; rotate_left 1; (focus ((try dsimp only at hSw); go_simp; (try with_reducible rfl))); simp only [Act.put, List.setIfInBounds_toArray, List.set_cons_zero, List.set_cons_succ])
        refine SegThen.nil ?_
        -- GEN
        refine wpAnyX_two 7 13 (by kernel_rfl) (by simp only [List.getElem?_toArray, List.getElem?_cons_zero, List.getElem?_cons_succ]; rfl) (by simp only [List.getElem?_toArray, List.getElem?_cons_zero, List.getElem?_cons_succ]; rfl) ?_ ?_
        · go_wp2
          refine QX_intro (fun _ => cells5 (hbb.alloc _) (hbx.alloc _)) ?_
          refine wpAnyX_world (fun w' => Blk w' b #[(.slice la A.l.length lc), (.slice ua A.u.length uc), .int .i64 (A.n : Nat), .int .i64 (m : Nat), .int .i64 (A.most : Nat)] 138 ∧ Blk w' w.heap.size #[.int .i64 k, .int .i64 n, .slice sb sl sc] 79 ∧ Keeps (foot b (.slice la A.l.length lc) (.slice ua A.u.length uc)) wr w' ∧ World.ownsRow w' 0 79 3 (.slice la A.l.length lc) A.l.length (flat A.l) ∧ World.ownsRow w' 0 4 1 (.slice ua A.u.length uc) A.u.length (A.u.map Value.bool) ∧ Blk w' wr.heap.size #[.int .i64 k, .int .i64 n, .slice sb sl sc] 79) ⟨hbb.alloc _, hbx.alloc _, by first | exact hk.alloc _ | exact (hk.alloc _).drew, World.ownsRow.alloc hol _, World.ownsRow.alloc hou _, Blk.new _ _ _⟩ ?_
          clear hbb hbx hk hol hou
          rintro w1 ⟨hbb, hbx, hk, hol, hou, hbl⟩
          refine wpAnyX_two 8 13 (by kernel_rfl) (by simp only [List.getElem?_toArray, List.getElem?_cons_zero, List.getElem?_cons_succ]; rfl) (by simp only [List.getElem?_toArray, List.getElem?_cons_zero, List.getElem?_cons_succ]; rfl) ?_ ?_
          · refine wpList_append_lies _ rfl _ _ 135 rfl 0 79 i35 (.agg #[.int .i64 0, .int .i64 0, .slice none 0 0]) 3 40 Tryz.underlying135 hi35 hz35 hs35 hy35 rfl (by decide) (.slice la A.l.length lc) A.l.length (flat A.l) rfl hol _ 1 1 [.int .i64 k, .int .i64 n, .slice sb sl sc] rfl rfl (cells_of_blk hbl) (by simp [Value.oneCell']) (by decide) (by unfold maxLen; omega) (by omega) (Nat.zero_le _) _ rfl ?_
            intro gl cl w2 hown hgrow hatl hgl
            have hatl' : gl ∈ (foot b (.slice la A.l.length lc) (.slice ua A.u.length uc)) ∨ w.heap.size ≤ gl := by rcases hatl with h1 | h1; exact .inl (foot_l h1); exact .inr (by have := hk.size; have := hK.size; omega)
            have hbb' := hbb.grown hgrow (Ne.symm nlb)
            have hbx' := hbx.grown hgrow (Ne.symm nlx)
            have hk' := hk.grown hgrow (fun x hx => .inl (foot_l hx))
            have hou' := World.ownsRow.kept hou hgrow nul
            clear hbb hbx hk hou hol hbl hgrow hatl
            refine wpList_nil (QX_intro (fun _ => cells5 hbb' hbx') ?_)
            have hol := hown; clear hown
            have hbb := hbb'; clear hbb'
            have hbx := hbx'; clear hbx'
            have hk := hk'; clear hk'
            have hou := hou'; clear hou'
            refine wpAnyX_one 13 (by kernel_rfl) (by simp only [List.getElem?_toArray, List.getElem?_cons_zero, List.getElem?_cons_succ]; rfl) ?_
            go_wp2
            refine QX_intro (fun _ => cells5 (hbb.alloc _) (hbx.alloc _)) ?_
            refine wpAnyX_world (fun w' => Blk w' b #[(.slice la A.l.length lc), (.slice ua A.u.length uc), .int .i64 (A.n : Nat), .int .i64 (m : Nat), .int .i64 (A.most : Nat)] 138 ∧ Blk w' w.heap.size #[.int .i64 k, .int .i64 n, .slice sb sl sc] 79 ∧ Keeps (foot b (.slice la A.l.length lc) (.slice ua A.u.length uc)) wr w' ∧ World.ownsRow w' 0 79 3 (.slice (some ⟨gl, 0, none⟩) (A.l.length + 1) cl) (A.l.length + 1) (flat A.l ++ [.int .i64 k, .int .i64 n, .slice sb sl sc]) ∧ World.ownsRow w' 0 4 1 (.slice ua A.u.length uc) A.u.length (A.u.map Value.bool) ∧ Blk w' w2.heap.size #[.bool true] 4) ⟨hbb.alloc _, hbx.alloc _, by first | exact hk.alloc _ | exact (hk.alloc _).drew, World.ownsRow.alloc hol _, World.ownsRow.alloc hou _, Blk.new _ _ _⟩ ?_
            clear hbb hbx hk hol hou
            rintro w3 ⟨hbb, hbx, hk, hol, hou, hbu⟩
            refine wpAnyX_one 14 (by kernel_rfl) (by simp only [List.getElem?_toArray, List.getElem?_cons_zero, List.getElem?_cons_succ]; rfl) ?_
            refine wpList_append_lies _ rfl _ _ 136 rfl 0 4 i4 (.bool false) 1 1 Tryz.underlying136 hi4 hz4 hs4 hy4 rfl (by decide) (.slice ua A.u.length uc) A.u.length (A.u.map Value.bool) rfl hou _ 1 1 [.bool true] rfl rfl (cells_of_blk hbu) (by simp [Value.oneCell']) (by decide) (by unfold maxLen; omega) (by omega) (Nat.zero_le _) _ rfl ?_
            intro gu cu w4 hown hgrow hatu hgu
            have hatu' : gu ∈ (foot b (.slice la A.l.length lc) (.slice ua A.u.length uc)) ∨ w.heap.size ≤ gu := by rcases hatu with h1 | h1; exact .inl (foot_u h1); exact .inr (by have := hk.size; have := hK.size; omega)
            have hbb' := hbb.grown hgrow (Ne.symm nub)
            have hbx' := hbx.grown hgrow (Ne.symm nux)
            have hk' := hk.grown hgrow (fun x hx => .inl (foot_u hx))
            have hol' := World.ownsRow.kept hol hgrow (own_ne_own hol hou (by decide))
            clear hbb hbx hol hk hou hbu hgrow hatu
            refine wpList_nil (QX_intro (fun _ => cells5 hbb' hbx') ?_)
            refine wpAnyX_tail [15, 16, 17, 18, 19, 20] _ (by kernel_rfl) (by simp only [List.map_cons, List.map_nil, List.getElem?_toArray, List.getElem?_cons_zero, List.getElem?_cons_succ]; rfl) rfl ?_
            dsimp only [List.filterMap, id]
            have q0 := hbb'.cell 0
            have q1 := hbb'.cell 1
            have r0 := hbb'.frozen 0
            have r1 := hbb'.frozen 1
            have HH := Lib.hid (And.intro hown (And.intro hol' (And.intro hk' (And.intro hbb' (And.intro hbx' (And.intro hatl' hatu'))))))
            clear hown hol' hk' hbb' hbx' hatl' hatu'
            go_wp2_with fail
            go_meet
            exact put_new hA ok hK hB HE.out HH.out
          · go_wp2
            refine QX_intro (fun _ => cells5 (hbb.alloc _) (hbx.alloc _)) ?_
            refine wpAnyX_world (fun w' => Blk w' b #[(.slice la A.l.length lc), (.slice ua A.u.length uc), .int .i64 (A.n : Nat), .int .i64 (m : Nat), .int .i64 (A.most : Nat)] 138 ∧ Blk w' w.heap.size #[.int .i64 k, .int .i64 n, .slice sb sl sc] 79 ∧ Keeps (foot b (.slice la A.l.length lc) (.slice ua A.u.length uc)) wr w' ∧ World.ownsRow w' 0 79 3 (.slice la A.l.length lc) A.l.length (flat A.l) ∧ World.ownsRow w' 0 4 1 (.slice ua A.u.length uc) A.u.length (A.u.map Value.bool) ∧ Blk w' wr.heap.size #[.int .i64 k, .int .i64 n, .slice sb sl sc] 79 ∧ Blk w' w1.heap.size #[.bool true] 4) ⟨hbb.alloc _, hbx.alloc _, by first | exact hk.alloc _ | exact (hk.alloc _).drew, World.ownsRow.alloc hol _, World.ownsRow.alloc hou _, Blk.alloc hbl _, Blk.new _ _ _⟩ ?_
            clear hbb hbx hk hol hou hbl
            rintro w2 ⟨hbb, hbx, hk, hol, hou, hbl, hbu⟩
            refine wpAnyX_one 8 (by kernel_rfl) (by simp only [List.getElem?_toArray, List.getElem?_cons_zero, List.getElem?_cons_succ]; rfl) ?_
            refine wpList_append_lies _ rfl _ _ 135 rfl 0 79 i35 (.agg #[.int .i64 0, .int .i64 0, .slice none 0 0]) 3 40 Tryz.underlying135 hi35 hz35 hs35 hy35 rfl (by decide) (.slice la A.l.length lc) A.l.length (flat A.l) rfl hol _ 1 1 [.int .i64 k, .int .i64 n, .slice sb sl sc] rfl rfl (cells_of_blk hbl) (by simp [Value.oneCell']) (by decide) (by unfold maxLen; omega) (by omega) (Nat.zero_le _) _ rfl ?_
            intro gl cl w3 hown hgrow hatl hgl
            have hatl' : gl ∈ (foot b (.slice la A.l.length lc) (.slice ua A.u.length uc)) ∨ w.heap.size ≤ gl := by rcases hatl with h1 | h1; exact .inl (foot_l h1); exact .inr (by have := hk.size; have := hK.size; omega)
            have hbb' := hbb.grown hgrow (Ne.symm nlb)
            have hbx' := hbx.grown hgrow (Ne.symm nlx)
            have hk' := hk.grown hgrow (fun x hx => .inl (foot_l hx))
            have hou' := World.ownsRow.kept hou hgrow nul
            have hbu' := hbu.grown hgrow (Ne.symm (own_ne hbu hol (by decide)))
            clear hbb hbx hk hou hol hbl hgrow hatl hbu
            refine wpList_nil (QX_intro (fun _ => cells5 hbb' hbx') ?_)
            have hol := hown; clear hown
            have hbb := hbb'; clear hbb'
            have hbx := hbx'; clear hbx'
            have hk := hk'; clear hk'
            have hou := hou'; clear hou'
            have hbu := hbu'; clear hbu'
            refine wpAnyX_one 14 (by kernel_rfl) (by simp only [List.getElem?_toArray, List.getElem?_cons_zero, List.getElem?_cons_succ]; rfl) ?_
            refine wpList_append_lies _ rfl _ _ 136 rfl 0 4 i4 (.bool false) 1 1 Tryz.underlying136 hi4 hz4 hs4 hy4 rfl (by decide) (.slice ua A.u.length uc) A.u.length (A.u.map Value.bool) rfl hou _ 1 1 [.bool true] rfl rfl (cells_of_blk hbu) (by simp [Value.oneCell']) (by decide) (by unfold maxLen; omega) (by omega) (Nat.zero_le _) _ rfl ?_
            intro gu cu w4 hown hgrow hatu hgu
            have hatu' : gu ∈ (foot b (.slice la A.l.length lc) (.slice ua A.u.length uc)) ∨ w.heap.size ≤ gu := by rcases hatu with h1 | h1; exact .inl (foot_u h1); exact .inr (by have := hk.size; have := hK.size; omega)
            have hbb' := hbb.grown hgrow (Ne.symm nub)
            have hbx' := hbx.grown hgrow (Ne.symm nux)
            have hk' := hk.grown hgrow (fun x hx => .inl (foot_u hx))
            have hol' := World.ownsRow.kept hol hgrow (own_ne_own hol hou (by decide))
            clear hbb hbx hol hk hou hbu hgrow hatu
            refine wpList_nil (QX_intro (fun _ => cells5 hbb' hbx') ?_)
            refine wpAnyX_tail [15, 16, 17, 18, 19, 20] _ (by kernel_rfl) (by simp only [List.map_cons, List.map_nil, List.getElem?_toArray, List.getElem?_cons_zero, List.getElem?_cons_succ]; rfl) rfl ?_
            dsimp only [List.filterMap, id]
            have q0 := hbb'.cell 0
            have q1 := hbb'.cell 1
            have r0 := hbb'.frozen 0
            have r1 := hbb'.frozen 1
            have HH := Lib.hid (And.intro hown (And.intro hol' (And.intro hk' (And.intro hbb' (And.intro hbx' (And.intro hatl' hatu'))))))
            clear hown hol' hk' hbb' hbx' hatl' hatu'
            go_wp2_with fail
            go_meet
            exact put_new hA ok hK hB HE.out HH.out
        · go_wp2
          refine QX_intro (fun _ => cells5 (hbb.alloc _) (hbx.alloc _)) ?_
          refine wpAnyX_world (fun w' => Blk w' b #[(.slice la A.l.length lc), (.slice ua A.u.length uc), .int .i64 (A.n : Nat), .int .i64 (m : Nat), .int .i64 (A.most : Nat)] 138 ∧ Blk w' w.heap.size #[.int .i64 k, .int .i64 n, .slice sb sl sc] 79 ∧ Keeps (foot b (.slice la A.l.length lc) (.slice ua A.u.length uc)) wr w' ∧ World.ownsRow w' 0 79 3 (.slice la A.l.length lc) A.l.length (flat A.l) ∧ World.ownsRow w' 0 4 1 (.slice ua A.u.length uc) A.u.length (A.u.map Value.bool) ∧ Blk w' wr.heap.size #[.bool true] 4) ⟨hbb.alloc _, hbx.alloc _, by first | exact hk.alloc _ | exact (hk.alloc _).drew, World.ownsRow.alloc hol _, World.ownsRow.alloc hou _, Blk.new _ _ _⟩ ?_
          clear hbb hbx hk hol hou
          rintro w1 ⟨hbb, hbx, hk, hol, hou, hbu⟩
          refine wpAnyX_one 7 (by kernel_rfl) (by simp only [List.getElem?_toArray, List.getElem?_cons_zero, List.getElem?_cons_succ]; rfl) ?_
          go_wp2
          refine QX_intro (fun _ => cells5 (hbb.alloc _) (hbx.alloc _)) ?_
          refine wpAnyX_world (fun w' => Blk w' b #[(.slice la A.l.length lc), (.slice ua A.u.length uc), .int .i64 (A.n : Nat), .int .i64 (m : Nat), .int .i64 (A.most : Nat)] 138 ∧ Blk w' w.heap.size #[.int .i64 k, .int .i64 n, .slice sb sl sc] 79 ∧ Keeps (foot b (.slice la A.l.length lc) (.slice ua A.u.length uc)) wr w' ∧ World.ownsRow w' 0 79 3 (.slice la A.l.length lc) A.l.length (flat A.l) ∧ World.ownsRow w' 0 4 1 (.slice ua A.u.length uc) A.u.length (A.u.map Value.bool) ∧ Blk w' w1.heap.size #[.int .i64 k, .int .i64 n, .slice sb sl sc] 79 ∧ Blk w' wr.heap.size #[.bool true] 4) ⟨hbb.alloc _, hbx.alloc _, by first | exact hk.alloc _ | exact (hk.alloc _).drew, World.ownsRow.alloc hol _, World.ownsRow.alloc hou _, Blk.new _ _ _, Blk.alloc hbu _⟩ ?_
          clear hbb hbx hk hol hou hbu
          rintro w2 ⟨hbb, hbx, hk, hol, hou, hbl, hbu⟩
          refine wpAnyX_one 8 (by kernel_rfl) (by simp only [List.getElem?_toArray, List.getElem?_cons_zero, List.getElem?_cons_succ]; rfl) ?_
          refine wpList_append_lies _ rfl _ _ 135 rfl 0 79 i35 (.agg #[.int .i64 0, .int .i64 0, .slice none 0 0]) 3 40 Tryz.underlying135 hi35 hz35 hs35 hy35 rfl (by decide) (.slice la A.l.length lc) A.l.length (flat A.l) rfl hol _ 1 1 [.int .i64 k, .int .i64 n, .slice sb sl sc] rfl rfl (cells_of_blk hbl) (by simp [Value.oneCell']) (by decide) (by unfold maxLen; omega) (by omega) (Nat.zero_le _) _ rfl ?_
          intro gl cl w3 hown hgrow hatl hgl
          have hatl' : gl ∈ (foot b (.slice la A.l.length lc) (.slice ua A.u.length uc)) ∨ w.heap.size ≤ gl := by rcases hatl with h1 | h1; exact .inl (foot_l h1); exact .inr (by have := hk.size; have := hK.size; omega)
          have hbb' := hbb.grown hgrow (Ne.symm nlb)
          have hbx' := hbx.grown hgrow (Ne.symm nlx)
          have hk' := hk.grown hgrow (fun x hx => .inl (foot_l hx))
          have hou' := World.ownsRow.kept hou hgrow nul
          have hbu' := hbu.grown hgrow (Ne.symm (own_ne hbu hol (by decide)))
          clear hbb hbx hk hou hol hbl hgrow hatl hbu
          refine wpList_nil (QX_intro (fun _ => cells5 hbb' hbx') ?_)
          have hol := hown; clear hown
          have hbb := hbb'; clear hbb'
          have hbx := hbx'; clear hbx'
          have hk := hk'; clear hk'
          have hou := hou'; clear hou'
          have hbu := hbu'; clear hbu'
          refine wpAnyX_one 14 (by kernel_rfl) (by simp only [List.getElem?_toArray, List.getElem?_cons_zero, List.getElem?_cons_succ]; rfl) ?_
          refine wpList_append_lies _ rfl _ _ 136 rfl 0 4 i4 (.bool false) 1 1 Tryz.underlying136 hi4 hz4 hs4 hy4 rfl (by decide) (.slice ua A.u.length uc) A.u.length (A.u.map Value.bool) rfl hou _ 1 1 [.bool true] rfl rfl (cells_of_blk hbu) (by simp [Value.oneCell']) (by decide) (by unfold maxLen; omega) (by omega) (Nat.zero_le _) _ rfl ?_
          intro gu cu w4 hown hgrow hatu hgu
          have hatu' : gu ∈ (foot b (.slice la A.l.length lc) (.slice ua A.u.length uc)) ∨ w.heap.size ≤ gu := by rcases hatu with h1 | h1; exact .inl (foot_u h1); exact .inr (by have := hk.size; have := hK.size; omega)
          have hbb' := hbb.grown hgrow (Ne.symm nub)
          have hbx' := hbx.grown hgrow (Ne.symm nux)
          have hk' := hk.grown hgrow (fun x hx => .inl (foot_u hx))
          have hol' := World.ownsRow.kept hol hgrow (own_ne_own hol hou (by decide))
          clear hbb hbx hol hk hou hbu hgrow hatu
          refine wpList_nil (QX_intro (fun _ => cells5 hbb' hbx') ?_)
          refine wpAnyX_tail [15, 16, 17, 18, 19, 20] _ (by kernel_rfl) (by simp only [List.map_cons, List.map_nil, List.getElem?_toArray, List.getElem?_cons_zero, List.getElem?_cons_succ]; rfl) rfl ?_
          dsimp only [List.filterMap, id]
          have q0 := hbb'.cell 0
          have q1 := hbb'.cell 1
          have r0 := hbb'.frozen 0
          have r1 := hbb'.frozen 1
          have HH := Lib.hid (And.intro hown (And.intro hol' (And.intro hk' (And.intro hbb' (And.intro hbx' (And.intro hatl' hatu'))))))
          clear hown hol' hk' hbb' hbx' hatl' hatu'
          go_wp2_with fail
          go_meet
          exact put_new hA ok hK hB HE.out HH.out
        -- END
      · have hb2 : ((m : Int) == (A.u.length : Int)) = false := by simp; omega
        go_wp2
        go_meet
        have hml' : m < A.u.length := by omega
        exact ⟨_, _, A.l, A.u, hA, ok.len, hml', by omega, (putAt_lt (by rw [ok.len]; exact hml')).symm, (putAt_lt hml').symm, hK.mono (fun x hx => by simp at hx; subst hx; exact .inl mem_foot), fun z hz => .inl hz, hB⟩
    case rest =>
      obtain ⟨vl', vu', l', u', hA', g1, g2, g3, g4, g5, g6, g7, g8⟩ := hcut
      obtain ⟨gl, cl, gu, cu, k0, n0, v0, rfl, hcl, rfl, hcu, hclm, hcum, hx, f0, f1, f2, f3, z0, z1, n1, n2, n3⟩ := hA'.at_ g1 (m := m) g2
      have c0 := hA'.blk.cell 0
      have c1 := hA'.blk.cell 1
      have c2 := hA'.blk.cell 2
      have cf2 := hA'.blk.frozen 2
      have b0 := g8.cell 0
      have b1 := g8.cell 1
      have b2 := g8.cell 2
      simp only at hcl hcu f3
      have n1' := n1.symm
      have G := Lib.hid (And.intro hA' (And.intro g1 (And.intro g4 (And.intro g5 (And.intro g6 g7)))))
      clear hA' g1 g4 g5 g6 g7 g8 hx hA hK hB h hc3 hc1 hf3 hh
      generalize hf3' : u'.getD m false = fb at f3
      clear hf3'
      go_wp2_with fail
      go_region
      go_wp2
      go_ret2
      obtain ⟨hA', g1, g4, g5, g6, g7⟩ := G.out
      exact put_end ok HF.out hml HU.out hm HB.out hA' g1 g2 g4 g5 g6 g7

end Go.Proofs.YtokbjopmfcggdaaGreat
