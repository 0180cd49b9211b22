/- build.calls: the numbers of the functions that an expression names. -/
import Derived.Test.YtokbjopmfcggdaaBound
import Derived.Test.YtokbjopmfcggdaaSort
namespace Go.Proofs.Ytokbjopmfcggdaa
open Go.RowKit
set_option linter.unusedVariables false
set_option linter.unusedSimpArgs false
set_option linter.unnecessarySimpa false

mutual
def callsC : Core → List Int
  | .mk k n a => (if k = 3 ∨ k = 4 then [n] else []) ++ callsA a
def callsA : List Core → List Int
  | [] => []
  | c :: r => callsC c ++ callsA r
end
theorem callsC_eq (c : Core) : callsC c = (if c.kind = 3 ∨ c.kind = 4 then [c.n] else []) ++ callsA c.args := by cases c; rw [callsC]; rfl
mutual
theorem callsC_len : ∀ (c : Core), (callsC c).length ≤ csize c
  | .mk k n a => by
    unfold callsC csize
    have h1 := callsA_len a
    simp only [List.length_append]
    split <;> simp <;> omega
theorem callsA_len : ∀ (a : List Core), (callsA a).length ≤ csizes a
  | [] => by simp [callsA]
  | c :: r => by
    unfold callsA csizes
    have h1 := callsC_len c
    have h2 := callsA_len r
    simp only [List.length_append]
    omega
end

def CallsPost (w : World) (B : Nat) (vo : Value) (R : List Int) (e : Ending) (w' : World) : Prop :=
  ∃ v', e = .returned v' ∧ w'.ownsRow B 3 1 v' R.length (ints R) ∧ Keeps vo.ownBlock.toList w w' ∧ ∀ x, v'.ownBlock = some x → vo.ownBlock = some x ∨ w.heap.size ≤ x
def CallsSaid (N : Nat) : Prop := ∀ (S : Nat → Prop) (w : World) (c : Core) (v : Value) (B : Nat) (vo : Value) (out : List Int), csize c ≤ N → N ≤ 1048576 → out.length + csize c ≤ 1048576 → CoreAt S w c v → (∀ b, S b → b < B) → B ≤ w.heap.size → w.ownsRow B 3 1 vo out.length (ints out) →
  Calls Try.prog 34 #[vo, v] w (CallsPost w B vo (out ++ callsC c))
/-- Behind the first statement. -/
structure CMid (w : World) (B : Nat) (vo : Value) (cs : Array Value) (l : List Int) (s0 : Value) (wx : World) : Prop where
  own : wx.ownsRow B 3 1 s0 l.length (ints l)
  k : Keeps vo.ownBlock.toList w wx
  e : Blk wx w.heap.size cs 25
  b : ∀ x, s0.ownBlock = some x → vo.ownBlock = some x ∨ w.heap.size ≤ x

set_option maxHeartbeats 1000000 in
set_option maxRecDepth 100000 in
theorem build_calls : ∀ N, CallsSaid N := by
  intro N
  induction N with
  | zero => intro S w c v B vo out hN _ _ _ _ _ _; have := csize_pos c; omega
  | succ N IH =>
    intro S w c v B vo out hN hN2 hN3 h hS hB ho
    obtain ⟨base, cap, rfl, hc1, hc2⟩ := h.form
    have hlen := csize_len c
    obtain ⟨vb, vc, rfl, hvc⟩ := ownsRow_zero ho
    have hs := csize_eq c
    have HE := Lib.hid (callsC_eq c)
    have HO := Lib.hid (And.intro ho h)
    have hown := fun x (hx : (Value.slice vb out.length vc).ownBlock = some x) => ho.lt x hx
    have HW := Lib.hid hown
    clear ho h hown
    generalize c.kind = k at *
    generalize c.n = m at *
    generalize hM : c.args.length = M at *
    have HM := Lib.hid hM
    clear hM
    unfold maxLen at hc2
    have hcase : ((k == 3) = true ∧ True) ∨ ((k == 3) = false ∧ (k == 4) = true) ∨ ((k == 3) = false ∧ (k == 4) = false) := by
      by_cases h1 : k = 3
      · exact .inl ⟨by simp [h1], trivial⟩
      · by_cases h2 : k = 4
        · exact .inr (.inl ⟨by simp [h1], by simp [h2]⟩)
        · exact .inr (.inr ⟨by simp [h1], by simp [h2]⟩)
    obtain ⟨l1, hl1⟩ : ∃ l1, l1 = if k = 3 ∨ k = 4 then [m] else [] := ⟨_, rfl⟩
    have hl1n : l1.length ≤ 1 := by rw [hl1]; split <;> simp
    rw [← hl1] at HE
    go_enter Try.func34, Try.ntmps34
    obtain ⟨i3, hi3, hz3, hs3, hy3⟩ := info_parts Try.info3
    rcases hcase with ⟨q1, q2⟩ | ⟨q1, q2⟩ | ⟨q1, q2⟩
    all_goals
      first
        | (rw [if_pos (by simp only [beq_eq_false_iff_ne, beq_iff_eq] at q1 q2; omega)] at hl1
           subst hl1
           go_wp2_with (at_builtin; refine wpList_append_lies _ rfl _ _ 26 rfl B 3 i3 (.int .i64 0) 1 8 Try.underlying26 hi3 hz3 hs3 hy3 rfl (by decide) (.slice vb out.length vc) out.length (ints out) rfl (by exact (HO.out.1.alloc _).alloc _) _ 1 1 [.int .i64 m] rfl rfl (by exact cells_of_blk (heap_new_at (by simp))) (by simp [Value.oneCell']) (by decide) (by unfold maxLen; omega) (by omega) (by simp; omega) _ rfl ?_)
           intro g1 cap1 w1 ho1 hgrow1 hat1 hgl1
           have hmid : CMid w B (.slice vb out.length vc) #[.int .i64 k, .int .i64 m, .slice base M cap] (out ++ [m]) (.slice (some ⟨g1, 0, none⟩) (out.length + 1) cap1) w1 := by
             refine ⟨by simpa [ints] using ho1, (((Keeps.refl _ w).alloc _).alloc _).grown hgrow1 (fun x hx => .inl (by simp [hx])), ((Blk.new w _ _).alloc _).grown hgrow1 (fun hh => by have := (HW.out _ hh.symm).2; omega), fun x hx => ?_⟩
             simp only [Value.ownBlock, Option.some.injEq] at hx
             subst hx
             rcases hat1 with h1 | h1
             · exact .inl h1
             · exact .inr (by omega)
           clear ho1 hgrow1 hat1
           go_upto_region 3 with fail
           refine wp_world (fun wx => CMid w B (.slice vb out.length vc) #[.int .i64 k, .int .i64 m, .slice base M cap] (out ++ [m]) (.slice (some ⟨g1, 0, none⟩) (out.length + 1) cap1) wx) hmid ?_
           clear hmid)
        | (rw [if_neg (by simp only [beq_eq_false_iff_ne] at q1 q2; omega)] at hl1
           subst hl1
           go_upto_region 3 with fail
           refine wp_world (fun wx => CMid w B (.slice vb out.length vc) #[.int .i64 k, .int .i64 m, .slice base M cap] (out ++ []) (.slice vb out.length vc) wx) ⟨by simpa using HO.out.1.alloc _, (Keeps.refl _ w).alloc _, Blk.new w _ _, fun x hx => .inl hx⟩ ?_)
      intro wx hmid
      obtain ⟨x0, x1, x2⟩ := cells3 hmid.e
      have HQ := Lib.hid hmid
      clear hmid
      go_wp2_with fail
      go_loopg [0, 23] M (fun q s0 s23 wr => ∃ (i : Nat) (out2 : List Int), i ≤ M ∧ q = M - i ∧ s23 = .int .i64 (i : Nat) ∧ out2 ++ callsA (c.args.drop i) = out ++ callsC c ∧ out2.length + csizes (c.args.drop i) ≤ 1048576 ∧ wr.ownsRow B 3 1 s0 out2.length (ints out2) ∧ Keeps (Value.slice vb out.length vc).ownBlock.toList w wr ∧ ∀ x, s0.ownBlock = some x → (Value.slice vb out.length vc).ownBlock = some x ∨ w.heap.size ≤ x)
      case atStart => exact ⟨0, _, Nat.zero_le _, rfl, rfl, by rw [HE.out]; simp, by simp at hl1n ⊢; omega, HQ.out.own, HQ.out.k, HQ.out.b⟩
      case round =>
        obtain ⟨i, out2, hi, rfl, rfl, hr2, hl2, ho2, hK, hb2⟩ := hrel
        obtain ⟨v2b, v2c, rfl, hv2c⟩ := ownsRow_zero ho2
        by_cases hlt2 : i < M
        · have h := HO.out.2
          have hfix : Fix S w wr := hK.fix (fun b hb => ⟨by have := hS b hb; omega, fun hx => by have := hS b hb; have := (HW.out b (by simpa using hx)).1; omega⟩)
          obtain ⟨g, off, k1, m1, sv, x, rfl, hx, hSg, hg, e0, e1, e2, hx3⟩ := h.step hfix hlt2
          have hdr := drop_cons hx
          have hcs : csizes (c.args.drop i) = csize x + csizes (c.args.drop (i + 1)) := by rw [hdr, csizes]
          have hrr : out2 ++ callsC x ++ callsA (c.args.drop (i + 1)) = out ++ callsC c := by rw [← hr2, hdr, callsA]; simp
          have hC := fun o => IH S (wr.alloc o) x _ B _ out2 (by have := csize_arg hx; omega) (by omega) (by omega) (CoreAt.keep (fun b hb => Below.heap_alloc _ _ _ (by have := hS b hb; have := hK.size; omega)) _ _ hx3) hS (by have := hK.size; simp; omega) (ho2.alloc o)
          have hlen2 := callsC_len x
          obtain ⟨sb, sc, rfl⟩ := hx3.slice
          have hsz := hK.size
          have H2 := Lib.hid (And.intro hC (And.intro hrr (And.intro hK (And.intro hb2 hcs))))
          clear hC hrr hK hb2 ho2 h hfix hx hdr hcs hr2 hx3 hS
          generalize hL2 : out2.length = L2 at *
          have HL2 := Lib.hid hL2
          clear hL2
          go_wp2_with fail
          refine (H2.out.1 _).mono ?_
          rintro e w1 ⟨v3, rfl, ho3, hk3, hb3⟩
          obtain ⟨_, hrr, hK, hb2, hcs⟩ := H2.out
          have hKK := (hK.alloc _).trans hk3 (fun x hx => (hb2 x (by simpa using hx)).imp (fun h => by simp [h]) id)
          have hb3' : ∀ x, v3.ownBlock = some x → (Value.slice vb out.length vc).ownBlock = some x ∨ w.heap.size ≤ x := fun x hx => by
            rcases hb3 x hx with h1 | h1
            · exact hb2 x h1
            · simp at h1; exact .inr (by omega)
          have H3 := Lib.hid (And.intro hrr (And.intro ho3 (And.intro hKK (And.intro hb3' hcs))))
          clear hrr hK hb2 ho3 hk3 hb3 hKK hb3' H2 hcs
          go_wp2_with fail
          go_roundg (M - (i + 1))
          case measure => omega
          case rel =>
            obtain ⟨hrr, ho3, hKK, hb3', hcs⟩ := H3.out
            obtain rfl := HL2.out
            exact ⟨i + 1, out2 ++ callsC x, by omega, rfl, by go_num, hrr, by simp; omega, ho3, hKK, hb3'⟩
        · obtain rfl : i = M := by omega
          have hdn : c.args.drop i = [] := List.drop_eq_nil_of_le (by rw [HM.out]; exact Nat.le_refl _)
          rw [hdn] at hr2
          simp only [callsA, List.append_nil] at hr2
          have H2 := Lib.hid (And.intro hr2 (And.intro ho2 (And.intro hK hb2)))
          clear hr2 ho2 hK hb2 hdn hl2
          generalize hL2 : out2.length = L2 at *
          have HL2 := Lib.hid hL2
          clear hL2
          go_wp2
          go_ret
          obtain ⟨hr2, ho2, hK, hb2⟩ := H2.out
          obtain rfl := HL2.out
          rw [← hr2]
          exact ⟨_, rfl, ho2, hK, hb2⟩

end Go.Proofs.Ytokbjopmfcggdaa
