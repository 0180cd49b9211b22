/- Proved: whimbrellaw23.BuildKeeps returns true, and its input reads as it did, for every input of bulk at most 1048576 (the form 'Upto'). (The frame of this text began as the given example of a proof of this form.) -/
import Derived.Test.YtokbjopmfcggdaaKeepsW
import Derived.Test.YtokbjopmfcggdaaOpen
import Derived.JoinedCond
namespace Go.Proofs.Ytokbjopmfcggdaa.buildKeeps
open Go.ChangeShapes Go.WideShapes Go.ChangeAt Go.RowKit
set_option linter.unusedVariables false
set_option linter.unusedSimpArgs false
set_option linter.unnecessarySimpa false

theorem own : ownKnob Try.prog.godebug = none := by kernel_rfl
theorem row22 : 22 < Try.prog.types.size := of_decide_eq_true (by kernel_rfl)
theorem row25 : 25 < Try.prog.types.size := of_decide_eq_true (by kernel_rfl)
theorem row26 : 26 < Try.prog.types.size := of_decide_eq_true (by kernel_rfl)
theorem rec22 : Try.prog.readableRec 22 = true := by kernel_rfl
theorem rec25 : Try.prog.readableRec 25 = true := by kernel_rfl
theorem rec26 : Try.prog.readableRec 26 = true := by kernel_rfl

theorem slice_cells {P : Program} {W : World} {r : Reach} {b : Nat} {t e : TypeId} {v : Value} (ht : P.underlying t = some (.slice e)) (h : Value.okWide P W r b t v) : v.cells.toList = [v] := by
  unfold Value.okWide at h
  rw [ht] at h
  unfold Cell.okWide Cell.ok at h
  rw [ht] at h
  cases v <;> simp_all [Value.cells]
theorem agg_cells {P : Program} {W : World} {r : Reach} {b : Nat} {t : TypeId} {fs : Array Field} {v : Value} (ht : P.underlying t = some (.struct fs)) (h : Value.okWide P W r b t v) : ∃ cs, v = .agg cs ∧ v.cells.toList = cs.toList := by
  unfold Value.okWide at h
  rw [ht] at h
  obtain ⟨cs, rfl, _⟩ := h
  exact ⟨cs, rfl, rfl⟩

theorem arr_of_list {α : Type} {a : Array α} {l : List α} (h : a.toList = l) : a = l.toArray := by cases a; simp_all

set_option maxRecDepth 100000 in
theorem contract (H : Type) (enc : TypeId × Value → H) (W : World) (base : Nat) (args : Array Value) (ds gs : List (DataW H)) (before : List MemPlace)
    (hval : ∀ (j : Nat) t v, Try.f3.params[j]? = some t → args[j]? = some v → Value.okWide Try.prog W .any base t v)
    (hW : DataW.Whole enc Try.prog Try.f3.params.toList Rows.buildKeepsSpec.vars false W args.toList ds gs before) (hk : Rows.uptoSmall H (ds ++ gs) = true) :
    Calls Try.prog 3 args W fun e W' => ∃ v, e = .returned v ∧ Rows.buildKeepsSpec.post enc Try.prog Try.f3 false true false false W args v W' := by
  have hW' := hW
  have hlt := hW.lt
  obtain ⟨p, q, hA0, hV, rfl, hfz, hnd⟩ := hW
  have hA : DataW.TrodAll enc Try.prog W 0 (fun _ => true) true Try.f3.params.toList args.toList ds p := hA0
  rw [Try.params3] at hA hval
  obtain ⟨v0, vs0, d0, ds0, p0, q0, hargs, rfl, rfl, h0, r0⟩ := trodAll_cons hA
  obtain ⟨v1, vs1, d1, ds1, p1, q1, rfl, rfl, rfl, h1, r1⟩ := trodAll_cons r0
  obtain ⟨v2, vs2, d2, ds2, p2, q2, rfl, rfl, rfl, h2, r2⟩ := trodAll_cons r1
  obtain ⟨v3, vs3, d3, ds3, p3, q3, rfl, rfl, rfl, h3, r3⟩ := trodAll_cons r2
  obtain ⟨v4, vs4, d4, ds4, p4, q4, rfl, rfl, rfl, h4, r4⟩ := trodAll_cons r3
  obtain ⟨rfl, rfl, rfl⟩ := trodAll_nil r4
  obtain rfl : args = #[v0, v1, v2, v3, v4] := arr_of_list hargs
  obtain ⟨rfl, rfl⟩ := trodVars_none hV
  obtain ⟨a0, rfl, rfl, rfl, w0⟩ := open_int Try.underlying3 (hval 0 3 v0 rfl rfl) h0
  obtain ⟨a4, rfl, rfl, rfl, w4⟩ := open_int Try.underlying3 (hval 4 3 v4 rfl rfl) h4
  have hbulk : Rows.uptoBulk d2 ≤ 1048576 := by
    have h := of_decide_eq_true hk
    simp only [List.cons_append, List.nil_append, List.append_nil, Rows.uptoBulkAll] at h
    omega
  have g1 := h1
  have g2 := h2
  have g3 := h3
  obtain ⟨n1, h1⟩ := h1
  obtain ⟨n2, h2⟩ := h2
  obtain ⟨n3, h3⟩ := h3
  rw [slice_cells Try.underlying22 (hval 1 22 v1 rfl rfl)] at h1
  rw [slice_cells Try.underlying26 (hval 3 26 v3 rfl rfl)] at h3
  obtain ⟨cs2, rfl, hc2⟩ := agg_cells Try.underlying25 (hval 2 25 v2 rfl rfl)
  rw [hc2] at h2
  obtain ⟨sv1, l1, e1, hd1⟩ := open_deeds h1
  obtain ⟨sv3, l3, e3, hd3, _⟩ := open_introw h3
  obtain ⟨c, k, n, sv, e2, hcore, hsz⟩ := open_core n2 _ _ h2
  simp only [List.cons.injEq, and_true] at e1 e3
  subst e1
  subst e3
  obtain rfl : cs2 = #[.int .i64 k, .int .i64 n, sv] := arr_of_list e2
  clear hA0
  simp only [List.append_nil, List.nil_append] at hW' hlt
  refine (law23_keeps a0 a4 hd1 (fun b hb => hb) hcore (fun b hb => hb) (by dsimp only at hsz; omega) hd3 (fun b hb => hb)).mono fun e W' ⟨he, hkk⟩ => ?_
  subst he
  refine ⟨_, rfl, _, _, _, [], [] ++ (p1 ++ (p2 ++ (p3 ++ ([] ++ [])))), [], hW', trodAll_mk1 (shut_bool Try.underlying4 _), ?_, rfl, hkk.below.frame _, fun h => by cases h⟩
  have hs : ∀ x : MemPlace, x.block < W.heap.size → W.sameAt W' x := fun x hx => sameAt_of hkk hx
  have hp1 : ∀ x ∈ p1, x.block < W.heap.size := fun x hx => hlt x (by simp [hx])
  have hp2 : ∀ x ∈ p2, x.block < W.heap.size := fun x hx => hlt x (by simp [hx])
  have hp3 : ∀ x ∈ p3, x.block < W.heap.size := fun x hx => hlt x (by simp [hx])
  have t1 := Go.WideElems.Trod_stays (W' := W') (sp' := fun b => decide (b < W.heap.size)) Try.laidOutB rec22 row22 g1 (fun x hx => hs x (hp1 x hx)) (fun x hx => by simpa using hp1 x hx)
  have t2 := Go.WideElems.Trod_stays (W' := W') (sp' := fun b => decide (b < W.heap.size)) Try.laidOutB rec25 row25 g2 (fun x hx => hs x (hp2 x hx)) (fun x hx => by simpa using hp2 x hx)
  have t3 := Go.WideElems.Trod_stays (W' := W') (sp' := fun b => decide (b < W.heap.size)) Try.laidOutB rec26 row26 g3 (fun x hx => hs x (hp3 x hx)) (fun x hx => by simpa using hp3 x hx)
  exact trodAll_cons_mk (shut_int Try.underlying3 w0) (trodAll_cons_mk t1 (trodAll_cons_mk t2 (trodAll_cons_mk t3 (trodAll_cons_mk (shut_int Try.underlying3 w4) trodAll_mk0))))

set_option maxRecDepth 100000 in
theorem lifted (os : Os) (started : os.Started) (H : Type) (enc : TypeId × Value → H) (F : Stop.Interp) :
    ReturnsInHanded {} Try.checked os 3 .any ((Rows.OpenSpec.upto Rows.buildKeepsSpec).pre6 enc Try.prog Try.f3 Rows.buildKeepsUptoRow.domain false) (((Rows.OpenSpec.upto Rows.buildKeepsSpec).at F).post enc Try.prog Try.f3 false true false false) := by
  refine returnsInHanded_of_cond (C := Try.checked) (s := Rows.OpenSpec.upto Rows.buildKeepsSpec) (k := Rows.uptoSmall) rfl own started (by kernel_rfl) Try.func3
    (OpenSpec.witness (enc := enc) (C := Try.checked) (s := Rows.OpenSpec.upto Rows.buildKeepsSpec) (k := Rows.uptoSmall) rfl false ⟨#[], #[.int .i64 0, .slice none 0 0, .agg #[.int .i64 0, .int .i64 0, .slice none 0 0], .slice none 0 0, .int .i64 0], []⟩ 8 (by kernel_rfl) (by kernel_rfl) (by kernel_rfl)
      (x := ([.lit (.int .i64 0), .nil, .agg [.lit (.int .i64 0), .lit (.int .i64 0), .nil], .nil, .lit (.int .i64 0)], [], [])) (by kernel_rfl) rfl (by kernel_rfl)) ?_
  intro W base args ds gs before hval hW _ hk _
  exact contract H enc W base args ds gs before hval hW hk

theorem over : Rows.buildKeepsUptoRow.holds Try.pinned (Rows.OpenSpec.upto Rows.buildKeepsSpec) :=
  OpenClaim.holds_of_cond 3 Try.f3 rfl rfl rfl rfl rfl rfl rfl ⟨rfl, rfl, rfl, rfl, rfl⟩ rfl rfl rfl rfl rfl (by kernel_rfl) Try.func3 (by kernel_rfl)
    (of_decide_eq_true (by kernel_rfl)) (by unfold Func.isWrapper; first | (rw [if_pos (by decide +kernel)]; kernel_rfl) | (rw [if_neg (by decide +kernel)]; exact ⟨rfl, rfl⟩))
    (fun os started H enc _ F => lifted os started H enc F)

theorem proved : Rows.BuildKeepsUptoSaid :=
  over
end Go.Proofs.Ytokbjopmfcggdaa.buildKeeps
#print axioms Go.Proofs.Ytokbjopmfcggdaa.buildKeeps.proved
