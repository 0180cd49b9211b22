/- Deeds in memory; law20's Few and Same. -/
import Derived.Test.YtokbjopmfcggdaaSmall
namespace Go.Proofs.Ytokbjopmfcggdaa
open Go.RowKit
set_option linter.unusedVariables false
set_option linter.unusedSimpArgs false
set_option linter.unnecessarySimpa false

structure Dd where
  kind : Int
  i : Int
  nd : Nd

def DeedCells (S : Nat → Prop) (w : World) (xs : List Value) (j : Nat) (d : Dd) : Prop := ∃ sv, xs[j * 5]? = some (.int .i64 d.kind) ∧ xs[j * 5 + 1]? = some (.int .i64 d.i) ∧ xs[j * 5 + 2]? = some (.int .i64 d.nd.kind) ∧ xs[j * 5 + 3]? = some (.int .i64 d.nd.n) ∧ xs[j * 5 + 4]? = some sv ∧ RowAt S w 1 sv d.nd.args.length (ints d.nd.args)
def DeedsAt (S : Nat → Prop) (w : World) (v : Value) (l : List Dd) : Prop := ∃ xs, RowAt S w 5 v l.length xs ∧ ∀ j d, l[j]? = some d → DeedCells S w xs j d
theorem DeedsAt.keep {S : Nat → Prop} {w w' : World} {v : Value} {l : List Dd} (h : DeedsAt S w v l) (hf : Fix S w w') : DeedsAt S w' v l := by
  obtain ⟨xs, h1, h2⟩ := h
  refine ⟨xs, h1.keep hf, fun j d hj => ?_⟩
  obtain ⟨sv, a, b, c, d, e, f⟩ := h2 j d hj
  exact ⟨sv, a, b, c, d, e, f.keep hf⟩
theorem DeedsAt.form {S : Nat → Prop} {w : World} {v : Value} {l : List Dd} (h : DeedsAt S w v l) : ∃ base cap, v = .slice base l.length cap ∧ l.length ≤ cap ∧ cap ≤ maxLen := by
  obtain ⟨xs, h1, _⟩ := h
  obtain ⟨base, cap, hv, h2, h3, _⟩ := h1.form
  exact ⟨base, cap, hv, h2, h3⟩
theorem DeedsAt.step {S : Nat → Prop} {w wr : World} {base : Option Addr} {cap n : Nat} {l : List Dd} (h : DeedsAt S w (.slice base n cap) l) (hf : Fix S w wr) {i : Nat} (hi : i < l.length) :
    ∃ g off d sv, base = some ⟨g, off, none⟩ ∧ l[i]? = some d ∧ S g ∧ g < wr.heap.size ∧ wr.cell? ⟨g, off + i * 5, none⟩ = some (.int .i64 d.kind) ∧ wr.cell? ⟨g, off + i * 5 + 1, none⟩ = some (.int .i64 d.i) ∧ wr.cell? ⟨g, off + i * 5 + 2, none⟩ = some (.int .i64 d.nd.kind) ∧ wr.cell? ⟨g, off + i * 5 + 3, none⟩ = some (.int .i64 d.nd.n) ∧ wr.cell? ⟨g, off + i * 5 + 4, none⟩ = some sv ∧ RowAt S wr 1 sv d.nd.args.length (ints d.nd.args) := by
  obtain ⟨xs, h1, h2⟩ := h.keep hf
  have hx : l[i]? = some l[i] := List.getElem?_eq_getElem hi
  obtain ⟨sv, e0, e1, e2, e3, e4, e5⟩ := h2 i _ hx
  obtain ⟨g, off, cap', hv, _, _, hS, hg, hc⟩ := h1.cells (by omega)
  injection hv with hv
  exact ⟨g, off, _, sv, hv, hx, hS, hg, hc _ _ e0, by simpa [Nat.add_assoc] using hc _ _ e1, by simpa [Nat.add_assoc] using hc _ _ e2, by simpa [Nat.add_assoc] using hc _ _ e3, by simpa [Nat.add_assoc] using hc _ _ e4, e5⟩

def fewD (l : List Dd) : Bool := l.all (fun d => decide (d.nd.args.length ≤ 20)) && decide (l.length ≤ 60)

set_option maxHeartbeats 1000000 in
theorem law20_few {S : Nat → Prop} {w : World} {v : Value} {l : List Dd} (h : DeedsAt S w v l) (hS : ∀ b, S b → b < w.heap.size) : Calls Try.prog 6 #[v] w (RetBool w (fewD l)) := by
  obtain ⟨base, cap, rfl, hc1, hc2⟩ := h.form
  obtain ⟨res, hr⟩ : ∃ res, res = fewD l := ⟨_, rfl⟩
  rw [← hr]
  have HR := Lib.hid hr
  have HH := Lib.hid (And.intro h hS)
  clear h hS hr
  generalize hn : l.length = n at *
  have HN := Lib.hid hn
  clear hn
  unfold maxLen at hc2
  go_enter Try.func6, Try.ntmps6
  go_wp2
  go_loopg [7] n (fun q s7 wr => ∃ i : Nat, i ≤ n ∧ q = n - i ∧ s7 = .int .i64 (i : Nat) ∧ (l.take i).all (fun d => decide (d.nd.args.length ≤ 20)) = true ∧ Keeps [] w wr)
  case atStart => exact ⟨0, Nat.zero_le _, rfl, rfl, by simp, Keeps.refl _ _⟩
  case round =>
    obtain ⟨i, hi, rfl, rfl, hall, hK⟩ := hrel
    by_cases hlt : i < n
    · obtain ⟨h, hS⟩ := HH.out
      obtain ⟨g, off, d, sv, rfl, hx, hSg, hg, e0, e1, e2, e3, e4, hrow⟩ := h.step (hK.fix (fun b hb => ⟨hS b hb, by simp⟩)) (by rw [HN.out]; exact hlt)
      obtain ⟨sb, sc, rfl, hs1, hs2, _⟩ := hrow.form
      unfold maxLen at hs2
      have HX := Lib.hid (And.intro hx (And.intro hall hK))
      clear h hS hx hrow hall hK
      generalize d.kind = dk at *
      generalize d.i = di at *
      generalize d.nd.kind = dnk at *
      generalize d.nd.n = dnn at *
      generalize hm : d.nd.args.length = m at *
      have HM := Lib.hid hm
      clear hm
      by_cases h20 : m ≤ 20
      · go_wp2
        go_roundg (n - (i + 1))
        case measure => omega
        case rel =>
          refine ⟨i + 1, by omega, rfl, by go_num, ?_, HX.out.2.2.alloc _⟩
          rw [List.take_add_one, HX.out.1]
          simp only [List.all_append, HX.out.2.1, Option.toList_some, List.all_cons, List.all_nil, HM.out, h20, decide_true, Bool.and_self]
      · go_wp2
        go_ret
        refine RetBool.mk ?_ (HX.out.2.2.alloc _)
        rw [HR.out]
        symm
        unfold fewD
        rw [Bool.and_eq_false_iff]
        left
        rw [List.all_eq_false]
        exact ⟨d, List.mem_of_getElem? HX.out.1, by rw [HM.out]; simpa using h20⟩
    · obtain rfl : i = n := by omega
      have HX := Lib.hid (And.intro hall hK)
      clear hall hK
      by_cases h60 : i ≤ 60
      all_goals
        go_wp2
        go_ret
        refine RetBool.mk ?_ HX.out.2
        rw [HR.out]
        have h5 := HX.out.1
        rw [← HN.out, List.take_length] at h5
        unfold fewD
        rw [h5, HN.out]
        simp
        omega

def NodeV (S : Nat → Prop) (w : World) (nd : Nd) (v : Value) : Prop := ∃ sv, v = .agg #[.int .i64 nd.kind, .int .i64 nd.n, sv] ∧ RowAt S w 1 sv nd.args.length (ints nd.args)
theorem NodeV.keep {S : Nat → Prop} {w w' : World} {nd : Nd} {v : Value} (h : NodeV S w nd v) (hf : Fix S w w') : NodeV S w' nd v := by
  obtain ⟨sv, h1, h2⟩ := h
  exact ⟨sv, h1, h2.keep hf⟩

set_option maxHeartbeats 1000000 in
theorem law20_same {S T : Nat → Prop} {w : World} {a b : Nd} {va vb : Value} (h : NodeV S w a va) (h' : NodeV T w b vb) (hS : ∀ b, S b → b < w.heap.size) (hT : ∀ b, T b → b < w.heap.size) : Calls Try.prog 11 #[va, vb] w (RetBool w (decide (a = b))) := by
  obtain ⟨sa, rfl, ra⟩ := h
  obtain ⟨sb, rfl, rb⟩ := h'
  have hC := fun w' (k : Keeps [] w w') => ref_ints (ra.keep (k.fix (fun b hb => ⟨hS b hb, by simp⟩))) (rb.keep (k.fix (fun b hb => ⟨hT b hb, by simp⟩)))
  have HC := Lib.hid hC
  obtain ⟨b1, c1, rfl, _⟩ := ra.form
  obtain ⟨b2, c2, rfl, _⟩ := rb.form
  clear hC ra rb hS hT
  obtain ⟨ka, na, la⟩ := a
  obtain ⟨kb, nb, lb⟩ := b
  dsimp only at *
  obtain ⟨res, hr⟩ : ∃ res, res = decide ((⟨ka, na, la⟩ : Nd) = ⟨kb, nb, lb⟩) := ⟨_, rfl⟩
  rw [← hr]
  have HR := Lib.hid hr
  clear hr
  by_cases hk : ka = kb
  · by_cases hn : na = nb
    · have HE := Lib.hid (And.intro hk hn)
      have k1 : (ka == kb) = true := by simp [hk]
      have k2 : (na == nb) = true := by simp [hn]
      clear hk hn
      go_enter Try.func11, Try.ntmps11
      go_wp2_with (go_at_call 16; refine (HC.out _ (by exact ((Keeps.refl _ _).alloc _).alloc _)).mono ?_; rintro e w' ⟨rfl, hk1⟩; have HK := Lib.hid hk1; clear hk1)
      go_ret
      refine RetBool.mk ?_ ((((Keeps.refl _ _).alloc _).alloc _).trans0 HK.out)
      rw [HR.out]
      simp [HE.out.1, HE.out.2]
    · have HE := Lib.hid hn
      have k1 : (ka == kb) = true := by simp [hk]
      have k2 : (na == nb) = false := by simp [hn]
      clear hk hn
      go_enter Try.func11, Try.ntmps11
      go_wp2
      go_ret
      refine RetBool.mk ?_ (((Keeps.refl _ _).alloc _).alloc _)
      rw [HR.out]
      simp [HE.out]
  · have HE := Lib.hid hk
    have k1 : (ka == kb) = false := by simp [hk]
    clear hk
    go_enter Try.func11, Try.ntmps11
    go_wp2
    go_ret
    refine RetBool.mk ?_ (((Keeps.refl _ _).alloc _).alloc _)
    rw [HR.out]
    simp [HE.out]

end Go.Proofs.Ytokbjopmfcggdaa
