/- build.make at a slot, at 'let', at 'free'. -/
import Derived.Test.YtokbjopmfcggdaaGreatMakeC
namespace Go.Proofs.YtokbjopmfcggdaaGreat
open Go.RowKit
set_option linter.unusedVariables false
set_option linter.unusedSimpArgs false
set_option linter.unnecessarySimpa false

/-- 'm[k]' at the operation. -/
theorem wpList_lookup_i {P : Program} (w : World) {ops : Array Oper} {rest : List Oper} {o : Oper} {a : Act} {Q : Exit → Act → World → Prop}
    (hg : o.guard = none) (mo x : Operand) (t : TypeId) (hop : o.op = Op.lookup t mo x false) (kt e : TypeId) (ht : P.underlying t = some (.map kt e)) (hk : P.underlying kt = some (.int .i64)) (b : Nat) (m : List (Int × Value)) (k : Int) (z : Value) (hz : (zeroValue e).run P w = .ok z w)
    (hm : a.eval mo = .map (some b)) (h : MapAt w b m) (hx : a.eval x = .int .i64 k)
    (hK : wpList P ops Q rest (a.put o.dst ((mget m k).getD z)) w) : wpList P ops Q (o :: rest) a w := by
  refine wpList_plain hg fun K' hK' => ?_
  have hrun := run_lookup_i (P := P) h ht hk hz k
  unfold Oper.wp
  simp [execOp, hop, hm, hx, hrun, Result.andThen]
  exact hK' _ _ hK

theorem zero_of_info {P : Program} {t : TypeId} {i : TypeInfo} {z : Value} (hi : P.info? t = some i) (hz : i.zero = some z) (w : World) : (zeroValue t).run P w = .ok z w := by
  simp [zeroValue, typeInfo, hi, hz, Result.andThen]

theorem Keeps.of_sub {M M' : List Nat} {a b : World} (h : Keeps M a b) (hM : ∀ x ∈ M, x ∈ M') : Keeps M' a b := h.mono (fun x hx => .inl (hM x hx))
theorem Keeps.drewL {M : List Nat} {a b : World} (h : Keeps M a.drew b) : Keeps M a b := ⟨h.os, h.tape, h.output, h.size, h.block⟩

theorem GPutPost.put {w w' : World} {g : Nat} {F : List Nat} {E : Nat → Prop} {G : List (Option Nd)} {most : Nat} {nd : Nd} {e : Ending} (h : GPutPost w g F E G most nd e w') (hg : GrAt w g F E G most) :
    ∃ b F', e = .returned (.tuple #[.int .i64 (putR most G nd).1, .bool b]) ∧ GrAt w' g F' E (putR most G nd).2 most ∧ Keeps F w w' ∧ ∀ x ∈ F', x ∈ F ∨ w.heap.size ≤ x := by
  unfold putR
  rcases h with ⟨h1, rfl, hk⟩ | ⟨h1, F', rfl, h2, h3, h4⟩
  · rw [if_neg (by omega)]
    exact ⟨false, F, rfl, hg.keep0 hk, hk.of0, fun x hx => .inl hx⟩
  · rw [if_pos h1]
    exact ⟨true, F', rfl, h2, h3, h4⟩

theorem mkC_eq (most : Nat) (c : Core) (s : St) : mkC most c s = if c.kind = 1 then (iget s.m c.n, s) else if c.kind = 9 then mkLet most c.n c.args s else if c.kind = 10 then mkFree most c.n c.args s else
      let s1 : St := if c.kind = 7 then { s with id := s.id + 1 } else s
      let r := mkA most c.args s1
      let p := putR most r.2.G ⟨kindK c.kind, if c.kind = 7 then s.id else if c.kind = 6 then 0 else c.n, r.1⟩
      (p.1, { r.2 with G := p.2 }) := by cases c; rw [mkC]; rfl

theorem make_var {S : Nat → Prop} {w : World} {c : Core} {v : Value} {bm be g : Nat} {F : List Nat} {E : Nat → Prop} {most : Nat} {s : St} (hk1 : c.kind = 1) (h : CoreAt S w c v) (hm : MkAt w bm be g F E most s) :
    Calls Tryz.prog 64 #[.pointer (some ⟨bm, 0, none⟩), v] w (MakePost w bm be g F E most (mkC most c s)) := by
  obtain ⟨base, cap, rfl, hc1, hc2⟩ := h.form
  have he : mkC most c s = (iget s.m c.n, s) := by rw [mkC_eq, if_pos hk1]
  have e1 : (c.kind == 1) = true := by simp [hk1]
  have hb := hm.blk.alloc (.cells #[.int .i64 c.kind, .int .i64 c.n, .slice base c.args.length cap] 46)
  have y1 := hb.cell 1
  have hmap := hm.map.keep (M := []) ((Keeps.refl _ _).alloc (.cells #[.int .i64 c.kind, .int .i64 c.n, .slice base c.args.length cap] 46)) (by simp)
  have hsz := hm.blk.lt
  have HH := Lib.hid (And.intro he (And.intro hm hmap))
  clear he hm hmap hb hk1 h
  generalize c.kind = k at *
  generalize c.n = m at *
  generalize c.args.length = M at *
  unfold maxLen at hc2
  go_enter Tryz.func64, Tryz.ntmps64
  go_upto_region 3 with fail
  refine wp_region_X (fun w' => w'.cell? ⟨bm, 1, none⟩ = some (.map (some be)) ∧ w'.cell? ⟨w.heap.size, 1, none⟩ = some (.int .i64 m)) [6, 7] (by kernel_rfl) ?_
  have hS : (w.alloc (.cells #[.int .i64 k, .int .i64 m, .slice base M cap] 46)).drew.cell? ⟨bm, 1, none⟩ = some (.map (some be)) ∧ (w.alloc (.cells #[.int .i64 k, .int .i64 m, .slice base M cap] 46)).drew.cell? ⟨w.heap.size, 1, none⟩ = some (.int .i64 m) := ⟨y1, (Blk.new w #[.int .i64 k, .int .i64 m, .slice base M cap] 46).cell 1⟩
  refine wpAnyX_take [0, 1, 2, 3, 4, 5] 2 (by kernel_rfl) (fun _ _ d _ _ h => by cases d <;> exact h) (by kernel_rfl) (by simp only [List.map_cons, List.map_nil, List.getElem?_toArray, List.getElem?_cons_zero, List.getElem?_cons_succ]; rfl) hS ?_
  repeat (refine SegThen.step (v := ?_) (by rfl) (fun w' hSw => ?_) ?_; rotate_left 1; (focus ((try dsimp only at hSw); go_simp; (try with_reducible rfl))); simp only [Act.put, List.setIfInBounds_toArray, List.set_cons_zero, List.set_cons_succ])
  refine SegThen.nil ?_
  refine wpAnyX_tail [6, 7] _ (by kernel_rfl) (by simp only [List.map_cons, List.map_nil, List.getElem?_toArray, List.getElem?_cons_zero, List.getElem?_cons_succ]; rfl) rfl ?_
  dsimp only [List.filterMap, id]
  obtain ⟨i3, hi3, hz3, hs3, hy3⟩ := info_parts Tryz.info3
  go_wp2_with (refine wpList_lookup_i _ rfl _ _ _ rfl 3 3 Tryz.underlying119 Tryz.underlying3 be (imap s.m) m (.int .i64 0) (zero_of_info hi3 hz3 _) rfl ?_ rfl ?_)
  · exact HH.out.2.2
  rw [mget_imap]
  go_wp2
  go_ret
  obtain ⟨he, hm, _⟩ := HH.out
  rw [he]
  refine ⟨F, rfl, hm.keep0 ((Keeps.refl _ _).alloc _).drew, ((Keeps.refl _ _).alloc _).drew, fun x hx => .inl hx⟩

def LetFst (most : Nat) (x : Core) (s : St) (m : Int) : St := { (mkC most x s).2 with m := iset (mkC most x s).2.m m (mkC most x s).1 }
/-- What 'm.env[e.N] = m.make(e.Args[0])' leaves. -/
def LetMid (w : World) (bm be g : Nat) (F : List Nat) (E : Nat → Prop) (most : Nat) (s' : St) (cs : Array Value) (wx : World) : Prop :=
  ∃ F', MkAt wx bm be g F' E most s' ∧ Keeps (bm :: be :: F) w wx ∧ (∀ z ∈ F', z ∈ F ∨ w.heap.size ≤ z) ∧ Blk wx w.heap.size cs 46 ∧ w.heap.size ∉ F'

set_option maxHeartbeats 1000000 in
set_option maxRecDepth 100000 in
theorem make_let {N : Nat} (IH : MakeSaid N) (hN2 : N + 1 ≤ 500000) {S : Nat → Prop} {w : World} {c : Core} {v : Value} {bm be g : Nat} {F : List Nat} {E : Nat → Prop} {most : Nat} {s : St} (hN : csize c ≤ N + 1) (hk9 : c.kind = 9) (ho : okC c = true) (h : CoreAt S w c v)
    (hS : ∀ b, S b → b < w.heap.size ∧ b ≠ bm ∧ b ≠ be ∧ b ∉ F) (hm : MkAt w bm be g F E most s) (hE : ∀ x, E x → x < w.heap.size) (h0 : 0 ≤ s.id) (h4 : s.id + csize c ≤ 4000000000) :
    Calls Tryz.prog 64 #[.pointer (some ⟨bm, 0, none⟩), v] w (MakePost w bm be g F E most (mkC most c s)) := by
  obtain ⟨base, cap, rfl, hc1, hc2⟩ := h.form
  have hp := okC_parts ho
  rw [hk9] at hp
  obtain ⟨x, y, hxy⟩ : ∃ x y, c.args = [x, y] := by
    have h1 : c.args.length = 2 := by have := hp.1; simp [partsK] at this; exact this
    match c.args, h1 with
    | [x, y], _ => exact ⟨x, y, rfl⟩
  have he : mkC most c s = mkC most y (LetFst most x s c.n) := by rw [mkC_eq, if_neg (by omega), if_pos hk9, hxy]; unfold mkLet LetFst; rfl
  have hok : okC x = true ∧ okC y = true := by have := hp.2; rw [hxy] at this; simpa [okA] using this
  have hs := csize_eq c
  rw [hxy] at hs
  simp only [csizes] at hs
  have hl : c.args.length = 2 := by rw [hxy]; rfl
  rw [hl] at h hc1 ⊢
  have hx0 : c.args[0]? = some x := by rw [hxy]; rfl
  have hx1 : c.args[1]? = some y := by rw [hxy]; rfl
  obtain ⟨g0, off, k0, m0, sv0, rfl, hSg, hg, a0, a1, a2, a3⟩ := h.arg hx0
  obtain ⟨_, _, k1, m1, sv1, hb1, _, _, b0, b1, b2, b3⟩ := h.arg hx1
  injection hb1 with hb1
  injection hb1 with hb1 hb2 _
  subst hb1 hb2
  have hmlt := hm.lt
  have hg0 := hS _ hSg
  have HH := Lib.hid (And.intro he (And.intro hm (And.intro hS (And.intro a3 b3))))
  have hxs := csize_pos x
  have hys := csize_pos y
  have kk : (Keeps [] w (w.alloc (.cells #[.int .i64 c.kind, .int .i64 c.n, .slice (some ⟨g0, off, none⟩) 2 cap] 46))) := (Keeps.refl _ _).alloc _
  have KK := Lib.hid kk
  have bE := Blk.new w #[.int .i64 c.kind, .int .i64 c.n, .slice (some ⟨g0, off, none⟩) 2 cap] 46
  have bm0 := (hm.keep0 kk).blk
  have r0 := kk.cell a0 (by simp)
  have r1 := kk.cell a1 (by simp)
  have r2 := kk.cell a2 (by simp)
  have HB := Lib.hid (And.intro b0 (And.intro b1 b2))
  have e1 : (c.kind == 1) = false := by simp [hk9]
  have e9 : (c.kind == 9) = true := by simp [hk9]
  have hid := mkC_id most x s
  have hbml := hm.blk.lt
  obtain ⟨sb0, sc0, rfl⟩ := a3.slice
  obtain ⟨sb1, sc1, rfl⟩ := b3.slice
  clear he hm hS a3 b3 b0 b1 b2 a0 a1 a2 h hp hk9 hx0 hx1 hxy hl kk
  generalize c.kind = k at *
  generalize c.n = m at *
  unfold maxLen at hc2
  go_enter Tryz.func64, Tryz.ntmps64
  go_upto_region 5 with fail
  go_cut [] (fun wx => LetMid w bm be g F E most (LetFst most x s m) #[.int .i64 k, .int .i64 m, .slice (some ⟨g0, off, none⟩) 2 cap] wx)
  case first =>
    refine wp_region_X (fun w' => w'.cell? ⟨bm, 1, none⟩ = some (.map (some be)) ∧ w'.cell? ⟨w.heap.size, 1, none⟩ = some (.int .i64 m) ∧ w'.cell? ⟨w.heap.size, 2, none⟩ = some (.slice (some ⟨g0, off, none⟩) 2 cap) ∧ w'.cell? ⟨g0, off, none⟩ = some (.int .i64 k0) ∧ w'.cell? ⟨g0, off + 1, none⟩ = some (.int .i64 m0) ∧ w'.cell? ⟨g0, off + 2, none⟩ = some (.slice sb0 x.args.length sc0)) [12] (by kernel_rfl) ?_
    have hS0 := And.intro (bm0.cell 1) (And.intro (bE.cell 1) (And.intro (bE.cell 2) (And.intro r0 (And.intro r1 r2))))
    simp only [Nat.zero_mul, Nat.add_zero] at hS0
    refine wpAnyX_take [0, 1, 2, 3, 4, 5, 6, 7, 8, 9, 10] 2 (by kernel_rfl) (fun _ _ d _ _ h => by cases d <;> exact h) (by kernel_rfl) (by simp only [List.map_cons, List.map_nil, List.getElem?_toArray, List.getElem?_cons_zero, List.getElem?_cons_succ]; rfl) hS0 ?_
    repeat (refine SegThen.step (v := ?_) (by rfl) (fun w' hSw => ?_) ?_; rotate_left 1; (focus ((try dsimp only at hSw); go_simp; (try with_reducible rfl))); simp only [Act.put, List.setIfInBounds_toArray, List.set_cons_zero, List.set_cons_succ])
    refine SegThen.nil ?_
    refine wpAnyX_one 11 (by kernel_rfl) (by simp only [List.getElem?_toArray, List.getElem?_cons_zero, List.getElem?_cons_succ]; rfl) ?_
    obtain ⟨he, hm, hS, a3, b3⟩ := HH.out
    have kk := KK.out
    go_wp2_with fail
    refine (IH S _ x _ bm be g F E most s (by omega) (by omega) hok.1 (by exact CoreAt.keep (kk.drew.fix (fun b hb => ⟨(hS b hb).1, by simp⟩)) _ _ a3) (fun b hb => by have := hS b hb; refine ⟨by simp; omega, this.2⟩) (by exact hm.keep0 kk.drew) (fun x hx => by have := hE x hx; simp; omega) h0 (by omega)).mono ?_
    rintro e w1 ⟨F1, rfl, hm1, hk1, hF1⟩
    have hnf : w.heap.size ∉ F := fun hh => by have := hmlt _ (List.mem_cons_of_mem _ (List.mem_cons_of_mem _ hh)); omega
    have nb : w.heap.size ∉ bm :: be :: F := fun hh => by have := hmlt _ hh; omega
    have hbe1 : be ∉ F1 ∧ bm ∉ F1 := ⟨hm1.notF.2, hm1.notF.1⟩
    have bE1 := bE.drew.keep hk1 nb
    have ngF : g0 ∉ bm :: be :: F := by simp; exact hg0.2
    have t0 := hk1.cell (show (w.alloc (.cells #[.int .i64 k, .int .i64 m, .slice (some ⟨g0, off, none⟩) 2 cap] 46)).drew.cell? _ = _ from hS0.2.2.2.1) ngF
    have t1 := hk1.cell (show (w.alloc (.cells #[.int .i64 k, .int .i64 m, .slice (some ⟨g0, off, none⟩) 2 cap] 46)).drew.cell? _ = _ from hS0.2.2.2.2.1) ngF
    have t2 := hk1.cell (show (w.alloc (.cells #[.int .i64 k, .int .i64 m, .slice (some ⟨g0, off, none⟩) 2 cap] 46)).drew.cell? _ = _ from hS0.2.2.2.2.2) ngF
    have hS1 := And.intro (hm1.blk.cell 1) (And.intro (bE1.cell 1) (And.intro (bE1.cell 2) (And.intro t0 (And.intro t1 t2))))
    have kw1 : Keeps (bm :: be :: F) w w1 := (kk.drew.of0).trans hk1 (fun z hz => .inl hz)
    have hF1' : ∀ z ∈ F1, z ∈ F ∨ w.heap.size + 1 ≤ z := fun z hz => by simpa using hF1 z hz
    have H1 := Lib.hid (And.intro hm1 (And.intro kw1 (And.intro hF1' (And.intro bE1 hnf))))
    have hmap1 := Lib.hid hm1.map
    clear he hm hS a3 b3 hm1 hk1 kw1 hF1 hF1' bE1 hS0 t0 t1 t2 kk
    go_wp2_with fail
    refine QX_intro (fun _ => by exact hS1) ?_
    refine wpAnyX_tail [12] _ (by kernel_rfl) (by simp only [List.map_cons, List.map_nil, List.getElem?_toArray, List.getElem?_cons_zero, List.getElem?_cons_succ]; rfl) rfl ?_
    dsimp only [List.filterMap, id]
    go_wp2_with (refine wpList_mapUpdate_i _ rfl _ _ _ _ rfl 3 3 Tryz.underlying119 Tryz.underlying3 be (imap (mkC most x s).2.m) m (.int .i64 (mkC most x s).1) rfl hmap1.out rfl rfl ?_)
    intro w2 hmap2 hk2
    rw [mset_imap] at hmap2
    obtain ⟨hm1, kw1, hF1, bE1, hnf⟩ := H1.out
    have hmid : LetMid w bm be g F E most (LetFst most x s m) #[.int .i64 k, .int .i64 m, .slice (some ⟨g0, off, none⟩) 2 cap] w2 := by
      have e1 : be ≠ bm := hm1.map.ne hm1.blk
      have e2 : be ≠ w.heap.size := hm1.map.ne bE1
      have hsz := kw1.size
      have hbeg : be ≠ g := by
        obtain ⟨b, vl, vu, A, hi, _⟩ := hm1.gr
        exact hm1.map.ne hi.blk
      have hbec : ∀ cur fz, w1.heap[be]? ≠ some (.cells cur 3 fz) := by
        intro cur fz hc
        obtain ⟨es, ck, hb, _⟩ := hm1.map
        rw [hb] at hc; cases hc
      refine ⟨F1, ⟨hm1.blk.keep hk2 (by simpa using Ne.symm e1), hmap2, hm1.gr.keep hk2 ?_, hm1.notF⟩, kw1.trans hk2 (fun z hz => .inl (by simp at hz; simp [hz])), fun z hz => (hF1 z hz).imp id (fun h => by omega), bE1.keep hk2 (by simpa using Ne.symm e2), fun hh => ?_⟩
      · intro z hz _
        simp at hz
        subst hz
        exact ⟨hm1.notF.2, hbeg, .inr hbec⟩
      · rcases hF1 _ hh with h1 | h1
        · exact hnf h1
        · omega
    clear hmap2 hk2 hm1 kw1 hF1 bE1 hS1
    go_wp2
    go_meet
    exact hmid
  case rest =>
    have hmid := hcut
    obtain ⟨F1, hm1, kw1, hF1, bE1, hnf1⟩ := hmid
    obtain ⟨he, hm, hS, a3, b3⟩ := HH.out
    obtain ⟨b0, b1, b2⟩ := HB.out
    have ngF : g0 ∉ bm :: be :: F := by simp; exact hg0.2
    have t0 := kw1.cell b0 ngF
    have t1 := kw1.cell b1 ngF
    have t2 := kw1.cell b2 ngF
    have x1 := bE1.cell 1
    have x2 := bE1.cell 2
    simp only [Nat.one_mul] at t0 t1 t2
    have b3' : CoreAt S wc y _ := CoreAt.keep (kw1.fix (fun b hb => ⟨(hS b hb).1, by have := hS b hb; simp; exact this.2⟩)) _ _ b3
    have hz1 := kw1.size
    have hid2 : (LetFst most x s m).id = (mkC most x s).2.id := rfl
    have hSS : ∀ b, S b → b < wc.heap.size ∧ b ≠ bm ∧ b ≠ be ∧ b ∉ F1 := fun b hb => by
      have h1 := hS b hb
      refine ⟨by omega, h1.2.1, h1.2.2.1, fun hh => ?_⟩
      rcases hF1 _ hh with h2 | h2
      · exact h1.2.2.2 h2
      · omega
    have hCY := IH S wc y _ bm be g F1 E most (LetFst most x s m) (by omega) (by omega) hok.2 b3' hSS hm1 (fun z hz => by have := hE z hz; omega) (by rw [hid2]; omega) (by rw [hid2]; omega)
    have H2 := Lib.hid (And.intro hCY (And.intro kw1 (And.intro hF1 he)))
    clear hcut hm1 kw1 hF1 bE1 hnf1 he hm hS a3 b3 b0 b1 b2 b3' hSS hCY
    go_wp2_with fail
    refine (H2.out.1).mono ?_
    rintro e w2 ⟨F2, rfl, hm2, hk2, hF2⟩
    have H3 := Lib.hid (And.intro hm2 (And.intro hk2 hF2))
    clear hm2 hk2 hF2
    go_wp2
    go_ret
    obtain ⟨hm2, hk2, hF2⟩ := H3.out
    obtain ⟨_, kw1, hF1, he⟩ := H2.out
    rw [he]
    refine ⟨F2, rfl, hm2, kw1.trans hk2 ?_, ?_⟩
    · intro z hz
      simp only [List.mem_cons] at hz ⊢
      rcases hz with h1 | h1 | h1
      · exact .inl (.inl h1)
      · exact .inl (.inr (.inl h1))
      · rcases hF1 z h1 with h2 | h2
        · exact .inl (.inr (.inr h2))
        · exact .inr h2
    · intro z hz
      rcases hF2 z hz with h1 | h1
      · exact hF1 z h1
      · exact .inr (by omega)

def FreeFst (most : Nat) (s : St) (m : Int) : St := { s with G := (putR most s.G ⟨4, 0, []⟩).2, m := iset s.m m (putR most s.G ⟨4, 0, []⟩).1 }

set_option maxHeartbeats 1000000 in
set_option maxRecDepth 100000 in
theorem make_free {N : Nat} (IH : MakeSaid N) (hN2 : N + 1 ≤ 500000) {S : Nat → Prop} {w : World} {c : Core} {v : Value} {bm be g : Nat} {F : List Nat} {E : Nat → Prop} {most : Nat} {s : St} (hN : csize c ≤ N + 1) (hk9 : c.kind = 10) (ho : okC c = true) (h : CoreAt S w c v)
    (hS : ∀ b, S b → b < w.heap.size ∧ b ≠ bm ∧ b ≠ be ∧ b ∉ F) (hm : MkAt w bm be g F E most s) (hE : ∀ x, E x → x < w.heap.size) (h0 : 0 ≤ s.id) (h4 : s.id + csize c ≤ 4000000000) :
    Calls Tryz.prog 64 #[.pointer (some ⟨bm, 0, none⟩), v] w (MakePost w bm be g F E most (mkC most c s)) := by
  obtain ⟨base, cap, rfl, hc1, hc2⟩ := h.form
  have hp := okC_parts ho
  rw [hk9] at hp
  obtain ⟨y, hxy⟩ : ∃ y, c.args = [y] := by
    have h1 : c.args.length = 1 := by have := hp.1; simp [partsK] at this; exact this
    match c.args, h1 with
    | [y], _ => exact ⟨y, rfl⟩
  have he : mkC most c s = mkC most y (FreeFst most s c.n) := by rw [mkC_eq, if_neg (by omega), if_neg (by omega), if_pos hk9, hxy]; unfold mkFree FreeFst; rfl
  have hok : okC y = true := by have := hp.2; rw [hxy] at this; simpa [okA] using this
  have hs := csize_eq c
  rw [hxy] at hs
  simp only [csizes] at hs
  have hl : c.args.length = 1 := by rw [hxy]; rfl
  rw [hl] at h hc1 ⊢
  have hx1 : c.args[0]? = some y := by rw [hxy]; rfl
  obtain ⟨g0, off, k1, m1, sv1, rfl, hSg, hg, b0, b1, b2, b3⟩ := h.arg hx1
  have hmlt := hm.lt
  have hg0 := hS _ hSg
  have HH := Lib.hid (And.intro he (And.intro hm (And.intro hS b3)))
  have hys := csize_pos y
  have kk : (Keeps [] w (w.alloc (.cells #[.int .i64 c.kind, .int .i64 c.n, .slice (some ⟨g0, off, none⟩) 1 cap] 46))) := (Keeps.refl _ _).alloc _
  have KK := Lib.hid kk
  have bE := Blk.new w #[.int .i64 c.kind, .int .i64 c.n, .slice (some ⟨g0, off, none⟩) 1 cap] 46
  have bm0 := (hm.keep0 kk).blk
  have x0 := bm0.cell 0
  have hgr := (hm.keep0 kk).gr
  have HB := Lib.hid (And.intro b0 (And.intro b1 (And.intro b2 (And.intro bE (And.intro bm0 hgr)))))
  have e1 : (c.kind == 1) = false := by simp [hk9]
  have e9 : (c.kind == 9) = false := by simp [hk9]
  have e10 : (c.kind == 10) = true := by simp [hk9]
  have hbml := hm.blk.lt
  obtain ⟨sb1, sc1, rfl⟩ := b3.slice
  clear he hm hS b3 b0 b1 b2 h hp hk9 hx1 hxy hl kk bE bm0 hgr
  generalize c.kind = k at *
  generalize c.n = m at *
  unfold maxLen at hc2
  go_enter Tryz.func64, Tryz.ntmps64
  go_upto_region 9 with (first | (go_at_call 85; go_loud (refine (node_put (l := []) (S := fun _ => False) (by exact HB.out.2.2.2.2.2) (fun z hz => by exact Nat.lt_of_lt_of_le (hE z hz) KK.out.size) (by exact RowAt.nil _ _ _) (fun b hb => hb.elim) (by decide)).mono ?_; intro e w1 hpp; obtain ⟨pb, F1, rfl, hq⟩ := hpp.put HB.out.2.2.2.2.2; have HP := Lib.hid hq; clear hq hpp)))
  go_cut [] (fun wx => LetMid w bm be g F E most (FreeFst most s m) #[.int .i64 k, .int .i64 m, .slice (some ⟨g0, off, none⟩) 1 cap] wx)
  case first =>
    obtain ⟨hg1, hk1, hF1⟩ := HP.out
    obtain ⟨he, hm, hS, b3⟩ := HH.out
    obtain ⟨b0, b1, b2, bE, bm0, hgr⟩ := HB.out
    have hnf : w.heap.size ∉ F := fun hh => by have := hmlt _ (List.mem_cons_of_mem _ (List.mem_cons_of_mem _ hh)); omega
    have kk := KK.out
    have kw1 : Keeps F w w1 := (kk.of0).trans hk1 (fun z hz => .inl hz)
    have bE1 := bE.keep hk1 hnf
    have bm1 := hm.blk.keep kw1 hm.notF.1
    have hmap1 := Lib.hid (hm.map.keep kw1 hm.notF.2)
    have hF1' : ∀ z ∈ F1, z ∈ F ∨ w.heap.size + 1 ≤ z := fun z hz => by simpa using hF1 z hz
    refine wp_region_X (fun w' => w'.cell? ⟨bm, 1, none⟩ = some (.map (some be)) ∧ w'.cell? ⟨w.heap.size, 1, none⟩ = some (.int .i64 m)) [7] (by kernel_rfl) ?_
    have hS0 := And.intro (bm1.cell 1) (bE1.cell 1)
    have H1 := Lib.hid (And.intro kw1 (And.intro bE1 (And.intro bm1 (And.intro hg1 (And.intro hF1' (And.intro hnf hm.notF))))))
    clear he hm hS b3 b0 b1 b2 bE bm0 hgr hnf kk kw1 bE1 bm1 hg1 hk1 hF1 hF1' HP
    refine wpAnyX_take [0, 1, 2, 3, 4, 5, 6] 1 (by kernel_rfl) (fun _ _ d _ _ h => by cases d <;> exact h) (by kernel_rfl) (by simp only [List.map_cons, List.map_nil, List.getElem?_toArray, List.getElem?_cons_zero, List.getElem?_cons_succ]; rfl) hS0 ?_
    repeat (refine SegThen.step (v := ?_) (by rfl) (fun w' hSw => ?_) ?_; rotate_left 1; (focus ((try dsimp only at hSw); go_simp; (try with_reducible rfl))); simp only [Act.put, List.setIfInBounds_toArray, List.set_cons_zero, List.set_cons_succ])
    refine SegThen.nil ?_
    refine wpAnyX_tail [7] _ (by kernel_rfl) (by simp only [List.map_cons, List.map_nil, List.getElem?_toArray, List.getElem?_cons_zero, List.getElem?_cons_succ]; rfl) rfl ?_
    dsimp only [List.filterMap, id]
    go_wp2_with (refine wpList_mapUpdate_i _ rfl _ _ _ _ rfl 3 3 Tryz.underlying119 Tryz.underlying3 be (imap s.m) m (.int .i64 (putR most s.G ⟨4, 0, []⟩).1) rfl hmap1.out rfl rfl ?_)
    intro w2 hmap2 hk2
    rw [mset_imap] at hmap2
    obtain ⟨kw1, bE1, bm1, hg1, hF1, hnf, hnfF⟩ := H1.out
    have hmid : LetMid w bm be g F E most (FreeFst most s m) #[.int .i64 k, .int .i64 m, .slice (some ⟨g0, off, none⟩) 1 cap] w2 := by
      have e1 : be ≠ bm := hmap1.out.ne bm1
      have e2 : be ≠ w.heap.size := hmap1.out.ne bE1
      have hsz := kw1.size
      have hbeg : be ≠ g := by
        obtain ⟨b, vl, vu, A, hi, _⟩ := hg1
        exact hmap1.out.ne hi.blk
      have hbl := hmap1.out.lt
      have hbe0 : be < w.heap.size := hmlt _ (by simp)
      have hbec : ∀ cur fz, w1.heap[be]? ≠ some (.cells cur 3 fz) := by
        intro cur fz hc
        obtain ⟨es, ck, hb, _⟩ := hmap1.out
        rw [show w1.heap[be]? = some (.map es ck) from hb] at hc; cases hc
      have hbef : be ∉ F1 := fun hh => by
        rcases hF1 _ hh with h1 | h1
        · exact hnfF.2 h1
        · omega
      have hbmf : bm ∉ F1 := fun hh => by
        rcases hF1 _ hh with h1 | h1
        · exact hnfF.1 h1
        · omega
      refine ⟨F1, ⟨bm1.drew.keep hk2 (by simpa using Ne.symm e1), hmap2, hg1.keep hk2.drewL ?_, hbmf, hbef⟩, (kw1.of_sub (M' := bm :: be :: F) (fun z hz => by simp [hz])).trans hk2.drewL (fun z hz => .inl (by simp at hz; simp [hz])), fun z hz => (hF1 z hz).imp id (fun h => by omega), bE1.keep hk2.drewL (by simpa using Ne.symm e2), fun hh => ?_⟩
      · intro z hz _
        simp at hz
        subst hz
        exact ⟨hbef, hbeg, .inr hbec⟩
      · rcases hF1 _ hh with h1 | h1
        · exact hnf h1
        · omega
    clear hmap2 hk2 kw1 bE1 bm1 hg1 hF1 hnf hnfF hS0
    go_wp2
    go_meet
    exact hmid
  case rest =>
    have hmid := hcut
    obtain ⟨F1, hm1, kw1, hF1, bE1, hnf1⟩ := hmid
    obtain ⟨he, hm, hS, b3⟩ := HH.out
    obtain ⟨b0, b1, b2, bE, _, hgr⟩ := HB.out
    have ngF : g0 ∉ bm :: be :: F := by simp; exact hg0.2
    have t0 := kw1.cell b0 ngF
    have t1 := kw1.cell b1 ngF
    have t2 := kw1.cell b2 ngF
    have x1 := bE1.cell 1
    have x2 := bE1.cell 2
    simp only [Nat.zero_mul, Nat.add_zero] at t0 t1 t2
    have b3' : CoreAt S wc y _ := CoreAt.keep (kw1.fix (fun b hb => ⟨(hS b hb).1, by have := hS b hb; simp; exact this.2⟩)) _ _ b3
    have hz1 := kw1.size
    have hid2 : (FreeFst most s m).id = s.id := rfl
    have hSS : ∀ b, S b → b < wc.heap.size ∧ b ≠ bm ∧ b ≠ be ∧ b ∉ F1 := fun b hb => by
      have h1 := hS b hb
      refine ⟨by omega, h1.2.1, h1.2.2.1, fun hh => ?_⟩
      rcases hF1 _ hh with h2 | h2
      · exact h1.2.2.2 h2
      · omega
    have hCY := IH S wc y _ bm be g F1 E most (FreeFst most s m) (by omega) (by omega) hok b3' hSS hm1 (fun z hz => by have := hE z hz; omega) (by rw [hid2]; omega) (by rw [hid2]; omega)
    have H2 := Lib.hid (And.intro hCY (And.intro kw1 (And.intro hF1 he)))
    clear hcut hm1 kw1 hF1 bE1 hnf1 he hm hS b3 b0 b1 b2 b3' hSS hCY hgr bE
    go_wp2_with fail
    refine (H2.out.1).mono ?_
    rintro e w2 ⟨F2, rfl, hm2, hk2, hF2⟩
    have H3 := Lib.hid (And.intro hm2 (And.intro hk2 hF2))
    clear hm2 hk2 hF2
    go_wp2
    go_ret
    obtain ⟨hm2, hk2, hF2⟩ := H3.out
    obtain ⟨_, kw1, hF1, he⟩ := H2.out
    rw [he]
    refine ⟨F2, rfl, hm2, kw1.trans hk2 ?_, ?_⟩
    · intro z hz
      simp only [List.mem_cons] at hz ⊢
      rcases hz with h1 | h1 | h1
      · exact .inl (.inl h1)
      · exact .inl (.inr (.inl h1))
      · rcases hF1 z h1 with h2 | h2
        · exact .inl (.inr (.inr h2))
        · exact .inr h2
    · intro z hz
      rcases hF2 z hz with h1 | h1
      · exact hF1 z h1
      · exact .inr (by omega)

end Go.Proofs.YtokbjopmfcggdaaGreat
