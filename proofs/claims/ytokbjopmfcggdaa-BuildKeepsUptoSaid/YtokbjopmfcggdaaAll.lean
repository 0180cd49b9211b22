/- law23.all: an expression, and all that is in it. -/
import Derived.Test.YtokbjopmfcggdaaDeeds
namespace Go.Proofs.Ytokbjopmfcggdaa
open Go.RowKit
set_option linter.unusedVariables false
set_option linter.unusedSimpArgs false
set_option linter.unnecessarySimpa false

mutual
def allC : Core → List Core
  | .mk k n a => .mk k n a :: allA a
def allA : List Core → List Core
  | [] => []
  | c :: r => allC c ++ allA r
end
theorem allC_eq (c : Core) : allC c = c :: allA c.args := by cases c; rw [allC]; rfl
mutual
theorem allC_len : ∀ (c : Core), (allC c).length = csize c
  | .mk k n a => by unfold allC csize; have := allA_len a; simp only [List.length_cons]; omega
theorem allA_len : ∀ (a : List Core), (allA a).length = csizes a
  | [] => by simp [allA, csizes]
  | c :: r => by unfold allA csizes; have := allC_len c; have := allA_len r; simp only [List.length_append]; omega
end
mutual
theorem allC_calls : ∀ (c : Core), ∀ y ∈ allC c, (y.kind = 3 ∨ y.kind = 4) → y.n ∈ callsC c
  | .mk k n a => by
    intro y hy hk
    unfold allC at hy
    unfold callsC
    rcases List.mem_cons.1 hy with rfl | h
    · have hk' : k = 3 ∨ k = 4 := hk
      rw [if_pos hk']
      exact List.mem_append_left _ (by simp [Core.n])
    · exact List.mem_append_right _ (allA_calls a y h hk)
theorem allA_calls : ∀ (a : List Core), ∀ y ∈ allA a, (y.kind = 3 ∨ y.kind = 4) → y.n ∈ callsA a
  | [] => by intro y hy; simp [allA] at hy
  | c :: r => by
    intro y hy hk
    unfold allA at hy
    unfold callsA
    rcases List.mem_append.1 hy with h | h
    · exact List.mem_append_left _ (allC_calls c y h hk)
    · exact List.mem_append_right _ (allA_calls r y h hk)
end

theorem CoresAt.append {S : Nat → Prop} {w : World} : ∀ {a b : List Core} {xs ys : List Value}, CoresAt S w a xs → CoresAt S w b ys → CoresAt S w (a ++ b) (xs ++ ys)
  | [], b, xs, ys, h, h' => by unfold CoresAt at h; subst h; simpa using h'
  | c :: r, b, xs, ys, h, h' => by
    unfold CoresAt at h
    obtain ⟨x0, x1, x2, rest, rfl, h1, h2⟩ := h
    simp only [List.cons_append]
    unfold CoresAt
    exact ⟨x0, x1, x2, rest ++ ys, rfl, h1, CoresAt.append h2 h'⟩
theorem CoresAt.one {S : Nat → Prop} {w : World} {c : Core} {x0 x1 x2 : Value} (h : CoreAt S w c (.agg #[x0, x1, x2])) : CoresAt S w [c] [x0, x1, x2] := by
  unfold CoresAt
  exact ⟨x0, x1, x2, [], rfl, h, by unfold CoresAt; rfl⟩
theorem CoresAt.len {S : Nat → Prop} {w : World} : ∀ {a : List Core} {xs : List Value}, CoresAt S w a xs → xs.length = a.length * 3
  | [], xs, h => by unfold CoresAt at h; subst h; rfl
  | c :: r, xs, h => by
    unfold CoresAt at h
    obtain ⟨x0, x1, x2, rest, rfl, h1, h2⟩ := h
    have := CoresAt.len h2
    simp only [List.length_cons]
    omega
theorem CoresAt.oneCell {S : Nat → Prop} {w : World} : ∀ {a : List Core} {xs : List Value}, CoresAt S w a xs → ∀ u ∈ xs, u.oneCell' = true
  | [], xs, h => by unfold CoresAt at h; subst h; simp
  | c :: r, xs, h => by
    unfold CoresAt at h
    obtain ⟨x0, x1, x2, rest, rfl, h1, h2⟩ := h
    obtain ⟨base, cap, hv, _⟩ := h1.form
    injection hv with hv
    simp at hv
    obtain ⟨rfl, rfl, rfl⟩ := hv
    intro u hu
    simp only [List.mem_cons] at hu
    rcases hu with rfl | rfl | rfl | hu
    · rfl
    · rfl
    · rfl
    · exact CoresAt.oneCell h2 u hu

theorem Try.info25 : (Try.prog.info? 25).map (fun i => (i.zero, i.size, i.bytes)) = some (some (.agg #[.int .i64 0, .int .i64 0, .slice none 0 0]), 3, 40) := by kernel_rfl

theorem cells_add0 {w : World} {g : Nat} {xs : List Value} (h : ∀ (j : Nat) (u : Value), xs[j]? = some u → w.cell? ⟨g, j, none⟩ = some u) : ∀ (j : Nat) (u : Value), xs[j]? = some u → w.cell? ((⟨g, 0, none⟩ : Addr).add j) = some u := by
  intro j u hu
  have hadd : (⟨g, 0, none⟩ : Addr).add j = ⟨g, j, none⟩ := by unfold Addr.add; split <;> simp_all
  rw [hadd]; exact h j u hu

def AllPost (S : Nat → Prop) (w : World) (l : List Core) (e : Ending) (w' : World) : Prop :=
  ∃ v xs, e = .returned v ∧ w'.ownsRow w.heap.size 25 3 v l.length xs ∧ CoresAt S w' l xs ∧ Keeps [] w w'
def AllSaid (N : Nat) : Prop := ∀ (S : Nat → Prop) (w : World) (c : Core) (v : Value), csize c ≤ N → N ≤ 1048576 → CoreAt S w c v → (∀ b, S b → b < w.heap.size) → Calls Try.prog 13 #[v] w (AllPost S w (allC c))

set_option maxHeartbeats 1000000 in
set_option maxRecDepth 100000 in
theorem law23_all : ∀ N, AllSaid N := by
  intro N
  induction N with
  | zero => intro S w c v hN _ _ _; have := csize_pos c; omega
  | succ N IH =>
    intro S w c v hN hN2 h hS
    obtain ⟨base, cap, rfl, hc1, hc2⟩ := h.form
    have hlen := csize_len c
    have hs := csize_eq c
    have HE := Lib.hid (allC_eq c)
    have HL := Lib.hid (allC_len c)
    have HH := Lib.hid (And.intro h hS)
    clear h hS
    generalize c.kind = k at *
    generalize c.n = n at *
    generalize hm : c.args.length = m at *
    have HM := Lib.hid hm
    clear hm
    unfold maxLen at hc2
    go_enter Try.func13, Try.ntmps13
    obtain ⟨i25, hi25, hz25, hs25, hy25⟩ := info_parts Try.info25
    go_wp2
    go_loopg [3, 11] m (fun q s3 s11 wr => ∃ i : Nat, i ≤ m ∧ q = m - i ∧ s11 = .int .i64 (i : Nat) ∧ (∃ xs, wr.ownsRow w.heap.size 25 3 s3 (c :: allA (c.args.take i)).length xs ∧ CoresAt S wr (c :: allA (c.args.take i)) xs) ∧ Keeps [] w wr)
    case atStart =>
      refine ⟨0, Nat.zero_le _, rfl, rfl, ⟨[.int .i64 k, .int .i64 n, .slice base m cap], ?_, ?_⟩, ((Keeps.refl _ _).alloc _).alloc _⟩
      · simp only [List.take_zero, allA, List.length_singleton]
        refine ⟨rfl, .inr ⟨_, 1, #[.int .i64 k, .int .i64 n, .slice base m cap], rfl, ?_, ?_, Nat.le_refl _, by decide, rfl, rfl⟩⟩
        · simp
        · exact heap_new_at (by simp)
      · simp only [List.take_zero, allA]
        have := HH.out
        exact CoresAt.one (CoreAt.keep (fun b hb => ((Below.heap_alloc _ _ _ (by have := HH.out.2 b hb; simp; omega)).trans (Below.heap_alloc _ _ _ (HH.out.2 b hb)))) _ _ HH.out.1)
    case round =>
      obtain ⟨i, hi, rfl, rfl, ⟨xs, ho, hcs⟩, hK⟩ := hrel
      by_cases hlt : i < m
      · obtain ⟨h, hS⟩ := HH.out
        obtain ⟨g, off, k1, m1, sv, x, rfl, hx, hSg, hg, e0, e1, e2, hx3⟩ := h.step (hK.fix (fun b hb => ⟨hS b hb, by simp⟩)) hlt
        have hxs := csize_arg hx
        have htk : allA (c.args.take (i + 1)) = allA (c.args.take i) ++ allC x := by
          have : ∀ (a : List Core) (i : Nat), a[i]? = some x → allA (a.take (i + 1)) = allA (a.take i) ++ allC x := by
            intro a
            induction a with
            | nil => intro i h; simp at h
            | cons y r ih =>
              intro i h
              cases i with
              | zero => simp at h; subst h; simp [allA]
              | succ i => simp only [List.take_succ_cons, allA]; rw [ih i (by simpa using h)]; simp
          exact this _ _ hx
        have hbound : (c :: allA (c.args.take i)).length + (allC x).length ≤ csize c := by
          have h1 := csizes_at c.args i x hx
          rw [allC_len, List.length_cons, allA_len]
          omega
        have hC := fun o => IH S (wr.alloc o) x _ (by omega) (by omega) (CoreAt.keep (fun b hb => Below.heap_alloc _ _ _ (Nat.lt_of_lt_of_le (hS b hb) hK.size)) _ _ hx3) (fun b hb => by have := hS b hb; have := hK.size; simp; omega)
        have hpos : 0 < (allC x).length := by rw [allC_len]; exact csize_pos x
        have hS' : ∀ b, S b → b < wr.heap.size := fun b hb => Nat.lt_of_lt_of_le (hS b hb) hK.size
        have hsz := hK.size
        obtain ⟨sb, sc, hsv⟩ := hx3.slice
        obtain ⟨vb, vc, rfl, hvc⟩ := ownsRow_zero ho
        have H1 := Lib.hid (And.intro hC (And.intro htk (And.intro ho (And.intro hcs (And.intro hK hS')))))
        have HQ := Lib.hid hbound
        clear h hS hx hx3 hC htk ho hcs hK hS' hbound
        subst hsv
        generalize hL1 : (c :: allA (c.args.take i)).length = L1 at *
        generalize hL2 : (allC x).length = L2 at *
        have HLL := Lib.hid (And.intro hL1 hL2)
        clear hL1 hL2
        have hb3 : L1 + L2 ≤ 1048576 := by have := HQ.out; omega
        go_wp2_with fail
        refine (H1.out.1 _).mono ?_
        rintro e w1 ⟨v2, xs2, rfl, ho2, hcs2, hk2⟩
        rw [HLL.out.2] at ho2
        obtain ⟨g2, cap2, rfl, hg1, hg2, hg3⟩ := ownsRow_cells ho2 hpos
        have hown1 := ownsRow_keep (H1.out.2.2.1.alloc _) hk2 (fun x hx => by simp)
        have hkk := (H1.out.2.2.2.2.1.alloc _).trans0 hk2
        have hcs1 : CoresAt S w1 _ xs := CoresAt.keep (fun b hb => (hk2.block b (by have := H1.out.2.2.2.2.2 b hb; simp; omega) (by simp)).trans (Below.heap_alloc _ _ _ (H1.out.2.2.2.2.2 b hb))) _ _ H1.out.2.2.2.1
        have hsz1 := hkk.size
        have hcc := CoresAt.append hcs1 hcs2
        have hxl := ho2.1
        have hon := hcs2.oneCell
        have hS1 : ∀ b, S b → b < w1.heap.size := fun b hb => Nat.lt_of_lt_of_le (H1.out.2.2.2.2.2 b hb) (by have := hk2.size; simp at this; omega)
        have H2 := Lib.hid (And.intro hkk (And.intro hcc (And.intro hown1 (And.intro hon (And.intro hxl hS1)))))
        have hg3' := Lib.hid hg3
        clear hkk hcc hown1 hcs1 hcs2 hk2 ho2 hon hxl hS1 hg3
        go_wp2_with (at_builtin; refine wpList_append_lies _ rfl _ _ 23 rfl w.heap.size 25 i25 (.agg #[.int .i64 0, .int .i64 0, .slice none 0 0]) 3 40 Try.underlying23 hi25 hz25 hs25 hy25 rfl (by decide) (.slice vb L1 vc) L1 xs rfl (by exact H2.out.2.2.1) ⟨g2, 0, none⟩ L2 cap2 xs2 rfl H2.out.2.2.2.2.1 (by exact cells_add0 hg3'.out) H2.out.2.2.2.1 (by omega) (by unfold maxLen; omega) (by omega) (by omega) _ rfl ?_)
        intro g4 cap4 w3 ho3 hgrow hat hgl
        have hgr : ∀ k, (Value.slice vb L1 vc).ownBlock = some k → k ∈ ([] : List Nat) ∨ w.heap.size ≤ k := fun k hk => .inr (H2.out.2.2.1.lt k hk).1
        have hK3 := H2.out.1.grown hgrow hgr
        have hcs3 := CoresAt.keep (w' := w3) (fun b hb => hgrow.block b (H2.out.2.2.2.2.2 b hb) (fun hh => by have := (H2.out.2.2.1.lt b hh.symm).1; have := HH.out.2 b hb; omega)) _ _ H2.out.2.1
        have H3 := Lib.hid (And.intro ho3 (And.intro hK3 hcs3))
        clear ho3 hgrow hat hgl hgr hK3 hcs3
        go_wp2_with fail
        go_roundg (m - (i + 1))
        case measure => omega
        case rel =>
          refine ⟨i + 1, by omega, rfl, by go_num, ⟨xs ++ xs2, ?_, ?_⟩, H3.out.2.1⟩
          · have e1 : (c :: allA (c.args.take (i + 1))).length = L1 + L2 := by rw [H1.out.2.1, ← HLL.out.1, ← HLL.out.2]; simp; omega
            rw [e1]; exact H3.out.1
          · rw [H1.out.2.1]
            exact H3.out.2.2
      · obtain rfl : i = m := by omega
        have H1 := Lib.hid (And.intro ho (And.intro hcs hK))
        obtain ⟨vb, vc, rfl, hvc⟩ := ownsRow_zero ho
        clear ho hcs hK
        go_wp2
        go_ret
        have hfin : allC c = c :: allA (c.args.take i) := by rw [HE.out, ← HM.out, List.take_length]
        rw [hfin]
        exact ⟨_, xs, rfl, H1.out.1, H1.out.2.1, H1.out.2.2⟩

end Go.Proofs.Ytokbjopmfcggdaa
