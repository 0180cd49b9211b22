/- Small functions of the laws: has, Ints, SizeOf, Few. -/
import Derived.Test.YtokbjopmfcggdaaCallsF
namespace Go.Proofs.Ytokbjopmfcggdaa
open Go.RowKit
set_option linter.unusedVariables false
set_option linter.unusedSimpArgs false
set_option linter.unnecessarySimpa false

theorem law23_has {S : Nat → Prop} {w : World} {v : Value} {l : List Int} (h : RowAt S w 1 v l.length (ints l)) (m : Int) : Calls Try.prog 14 #[v, .int .i64 m] w (ContainsPost w (decide (m ∈ l))) := by
  obtain ⟨base, cap, rfl, h1, h2, hc⟩ := row_at h
  unfold maxLen at h2
  have HC := Lib.hid hc
  clear hc h
  obtain ⟨r, hr⟩ : ∃ r, r = decide (m ∈ l) := ⟨_, rfl⟩
  rw [← hr]
  have HR := Lib.hid hr
  clear hr
  go_enter Try.func14, Try.ntmps14
  go_wp2
  generalize hn : l.length = n at *
  have HN := Lib.hid hn
  clear hn
  go_loopg [9] n (fun q s9 wr => ∃ i : Nat, i ≤ n ∧ q = n - i ∧ s9 = .int .i64 (i : Nat) ∧ m ∉ l.take i ∧ wr = w)
  case atStart => exact ⟨0, Nat.zero_le _, rfl, rfl, by simp, rfl⟩
  case round =>
    obtain ⟨i, hi, rfl, rfl, hnot, rfl⟩ := hrel
    have HT := Lib.hid hnot
    clear hnot
    by_cases hlt : i < n
    · obtain ⟨g, off, rfl, _, _, hcell⟩ := HC.out i hlt
      have hx : l[i]? = some (l.getD i 0) := by rw [List.getD_eq_getElem?_getD, List.getElem?_eq_getElem (by rw [HN.out]; exact hlt)]; rfl
      have HX := Lib.hid hx
      clear hx
      generalize l.getD i 0 = x at *
      by_cases he : x = m
      · have hb : (x == m) = true := by simp [he]
        have HM := Lib.hid he
        clear he
        go_wp2
        go_ret
        refine ⟨ret_bool ?_, rfl⟩
        rw [HR.out]
        have : m ∈ l := by rw [← HM.out]; exact List.mem_of_getElem? HX.out
        simp [this]
      · have hb : (x == m) = false := by simp [he]
        have HM := Lib.hid he
        clear he
        go_wp2
        go_roundg (n - (i + 1))
        case measure => omega
        case rel =>
          refine ⟨i + 1, by omega, rfl, by go_num, ?_, rfl⟩
          rw [take_snoc' HX.out]
          intro hm
          rcases List.mem_append.1 hm with h1 | h1
          · exact HT.out h1
          · exact HM.out (by simp at h1; exact h1.symm)
    · obtain rfl : i = n := by omega
      go_wp2
      go_ret
      refine ⟨ret_bool ?_, rfl⟩
      rw [HR.out]
      have := HT.out
      rw [← HN.out, List.take_length] at this
      simp [this]

theorem csize_le (c : Core) : 1 ≤ csize c := csize_pos c
def SizeSaid (N : Nat) : Prop := ∀ (S : Nat → Prop) (w : World) (c : Core) (v : Value), csize c ≤ N → N ≤ 1048576 → CoreAt S w c v → (∀ b, S b → b < w.heap.size) → Calls Try.prog 15 #[v] w (RetInt w (csize c : Nat))
set_option maxHeartbeats 1000000 in
theorem ref_size : ∀ N, SizeSaid N := by
  intro N
  induction N with
  | zero => intro S w c v hN _ _ _; have := csize_pos c; omega
  | succ N IH =>
    intro S w c v hN hN2 h hS
    obtain ⟨base, cap, rfl, hc1, hc2⟩ := h.form
    have hlen := csize_len c
    have hs := csize_eq c
    have HH := Lib.hid (And.intro h hS)
    have hn3 : csizes c.args ≤ 1048576 := by omega
    clear h hS
    generalize c.kind = k at *
    generalize c.n = n at *
    generalize hm : c.args.length = m at *
    have HM := Lib.hid hm
    clear hm
    generalize hcs : csize c = cs at *
    have HS := Lib.hid (And.intro hcs hs)
    clear hcs hs
    unfold maxLen at hc2
    go_enter Try.func15, Try.ntmps15
    go_wp2
    go_loopg [3, 9] m (fun q s3 s9 wr => ∃ i : Nat, i ≤ m ∧ q = m - i ∧ (∃ z : Nat, s3 = .int .i64 (z : Nat) ∧ z + csizes (c.args.drop i) = cs) ∧ s9 = .int .i64 (i : Nat) ∧ Keeps [] w wr)
    case atStart => exact ⟨0, Nat.zero_le _, rfl, ⟨1, rfl, by rw [List.drop_zero]; exact HS.out.2.symm⟩, rfl, (Keeps.refl _ _).alloc _⟩
    case round =>
      obtain ⟨i, hi, rfl, ⟨z, rfl, hz⟩, rfl, hK⟩ := hrel
      by_cases hlt : i < m
      · obtain ⟨h, hS⟩ := HH.out
        obtain ⟨g, off, k1, m1, sv, x, rfl, hx, hSg, hg, e0, e1, e2, hx3⟩ := h.step (hK.fix (fun b hb => ⟨hS b hb, by simp⟩)) hlt
        have hsn : csizes (c.args.drop i) = csize x + csizes (c.args.drop (i + 1)) := by rw [drop_cons hx, csizes]
        have hz2 : z ≤ 1048576 := by omega
        have hz3 : csize x ≤ 1048576 := by omega
        have hxN : csize x ≤ N := by have := csize_arg hx; have := HS.out.1; omega
        have HZ := Lib.hid (show z + csize x + csizes (c.args.drop (i + 1)) = cs by omega)
        have hC := fun o => IH S (wr.alloc o) x _ hxN (by omega) (CoreAt.keep (fun b hb => Below.heap_alloc _ _ _ (Nat.lt_of_lt_of_le (hS b hb) hK.size)) _ _ hx3) (fun b hb => by have := hS b hb; have := hK.size; simp; omega)
        have HC := Lib.hid hC
        have HK := Lib.hid hK
        have hs2 := hK.size
        obtain ⟨sb, sc, hsv⟩ := hx3.slice
        clear h hS hx hx3 hsn hz hC hK
        subst hsv
        go_wp2_with (go_at_call 15; refine (HC.out _).mono ?_; rintro e w1 ⟨rfl, hk1⟩; have HK1 := Lib.hid hk1; clear hk1)
        go_roundg (m - (i + 1))
        case measure => omega
        case rel => exact ⟨i + 1, by omega, rfl, ⟨z + csize x, by go_num, HZ.out⟩, by go_num, ((HK.out.alloc _).trans0 HK1.out)⟩
      · obtain rfl : i = m := by omega
        have hz0 : z = cs := by rw [← HM.out] at hz; simp [csizes] at hz; omega
        go_wp2
        go_ret
        exact RetInt.mk (by rw [hz0]) hK

theorem law17_few {S : Nat → Prop} {w : World} {c : Core} {v : Value} (hc : csize c ≤ 1048576) (h : CoreAt S w c v) (hS : ∀ b, S b → b < w.heap.size) : Calls Try.prog 7 #[v] w (RetBool w (decide (csize c ≤ 100))) := by
  obtain ⟨base, cap, rfl, hc1, hc2⟩ := h.form
  have hC := fun o : Obj => ref_size 1048576 S (w.alloc o) c _ hc (by omega) (CoreAt.keep (fun b hb => Below.heap_alloc _ _ _ (hS b hb)) _ _ h) (fun b hb => by have := hS b hb; simp; omega)
  have HC := Lib.hid hC
  clear hC h hS
  generalize c.kind = k at *
  generalize c.n = n at *
  generalize c.args.length = M at *
  generalize csize c = cs at *
  unfold maxLen at hc2
  by_cases h1 : cs ≤ 100
  all_goals
    go_enter Try.func7, Try.ntmps7
    go_wp2_with (go_at_call 15; refine (HC.out _).mono ?_; rintro e w1 ⟨rfl, hk1⟩; have HK1 := Lib.hid hk1; clear hk1)
    go_ret
    exact RetBool.mk (by simp; omega) (((Keeps.refl _ _).alloc _).trans0 HK1.out)

theorem ref_ints {S T : Nat → Prop} {w : World} {v u : Value} {l r : List Int} (h : RowAt S w 1 v l.length (ints l)) (h' : RowAt T w 1 u r.length (ints r)) : Calls Try.prog 16 #[v, u] w (RetBool w (decide (l = r))) := by
  obtain ⟨b1, c1, rfl, h1, h2, hc⟩ := row_at h
  obtain ⟨b2, c2, rfl, h3, h4, hc'⟩ := row_at h'
  unfold maxLen at h2 h4
  have HC := Lib.hid (And.intro hc hc')
  clear hc h hc' h'
  obtain ⟨res, hr⟩ : ∃ res, res = decide (l = r) := ⟨_, rfl⟩
  rw [← hr]
  have HR := Lib.hid hr
  clear hr
  by_cases hl : l.length = r.length
  · have HLR := Lib.hid hl
    rw [← hl] at HC h3 ⊢
    clear hl
    generalize hn : l.length = n at *
    have HN := Lib.hid hn
    clear hn
    go_enter Try.func16, Try.ntmps16
    go_wp2
    go_loopg [13] n (fun q s13 wr => ∃ i : Nat, i ≤ n ∧ q = n - i ∧ s13 = .int .i64 (i : Nat) ∧ l.take i = r.take i ∧ Keeps [] w wr)
    case atStart => exact ⟨0, Nat.zero_le _, rfl, rfl, by simp, Keeps.refl _ _⟩
    case round =>
      obtain ⟨i, hi, rfl, rfl, heq, hK⟩ := hrel
      have HT := Lib.hid (And.intro heq hK)
      clear heq
      by_cases hlt : i < n
      · obtain ⟨g1, o1, rfl, _, _, e1⟩ := HC.out.1 i hlt
        obtain ⟨g2, o2, rfl, _, _, e2⟩ := HC.out.2 i hlt
        have e1' := hK.cell e1 (by simp)
        have e2' := hK.cell e2 (by simp)
        have hx : l[i]? = some (l.getD i 0) := by rw [List.getD_eq_getElem?_getD, List.getElem?_eq_getElem (by rw [HN.out]; exact hlt)]; rfl
        have hy : r[i]? = some (r.getD i 0) := by rw [List.getD_eq_getElem?_getD, List.getElem?_eq_getElem (by have := HLR.out; have := HN.out; omega)]; rfl
        have HX := Lib.hid (And.intro hx hy)
        clear hx hy e1 e2 hK
        generalize l.getD i 0 = x at *
        generalize r.getD i 0 = y at *
        by_cases he : x = y
        · have hb : (x != y) = false := by simp [he]
          have HM := Lib.hid he
          clear he
          go_upto_region 6 with fail
          go_region
          all_goals
            go_wp2
            go_roundg (n - (i + 1))
            case measure => omega
            case rel => exact ⟨i + 1, by omega, rfl, by go_num, by rw [take_snoc' HX.out.1, take_snoc' HX.out.2, HT.out.1, HM.out], by exact HT.out.2.drew⟩
        · have hb : (x != y) = true := by simp [he]
          have HM := Lib.hid he
          clear he
          go_upto_region 6 with fail
          go_region
          all_goals
            go_wp2
            go_ret
            refine RetBool.mk ?_ HT.out.2.drew
            rw [HR.out]
            symm
            simp only [decide_eq_false_iff_not]
            intro hlr
            have := HX.out.1
            rw [hlr, HX.out.2] at this
            injection this with this
            exact HM.out this.symm
      · obtain rfl : i = n := by omega
        go_wp2
        go_ret
        refine RetBool.mk ?_ HT.out.2
        rw [HR.out]
        have h6 := HN.out
        have h7 := HLR.out
        have h5 : l = r := by
          have := HT.out.1
          rw [List.take_of_length_le (by omega), List.take_of_length_le (by omega)] at this
          exact this
        simp [h5]
  · have hd : (l.length == r.length) = false := by simp [hl]
    have hd2 : ((l.length : Int) != (r.length : Int)) = true := by simp; omega
    go_enter Try.func16, Try.ntmps16
    go_wp2
    go_ret
    refine RetBool.mk ?_ (Keeps.refl _ _)
    rw [HR.out]
    symm
    simp only [decide_eq_false_iff_not]
    intro h; exact hl (by rw [h])

end Go.Proofs.Ytokbjopmfcggdaa
