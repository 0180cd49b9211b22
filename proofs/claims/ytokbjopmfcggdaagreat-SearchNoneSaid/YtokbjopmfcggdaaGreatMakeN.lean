/- build.make at a node: the walk. -/
import Derived.Test.YtokbjopmfcggdaaGreatMakeM
namespace Go.Proofs.YtokbjopmfcggdaaGreat
open Go.RowKit
set_option linter.unusedVariables false
set_option linter.unusedSimpArgs false
set_option linter.unnecessarySimpa false

set_option maxHeartbeats 2000000 in
set_option maxRecDepth 100000 in
theorem make_node {N : Nat} (IH : MakeSaid N) (hN2 : N + 1 ≤ 500000) {S : Nat → Prop} {w : World} {c : Core} {v : Value} {bm be g : Nat} {F : List Nat} {E : Nat → Prop} {most : Nat} {s : St} (hN : csize c ≤ N + 1) (hk1 : c.kind ≠ 1) (hk9 : c.kind ≠ 9) (hk10 : c.kind ≠ 10) (ho : okC c = true) (h : CoreAt S w c v)
    (hS : ∀ b, S b → b < w.heap.size ∧ b ≠ bm ∧ b ≠ be ∧ b ∉ F) (hm : MkAt w bm be g F E most s) (hE : ∀ x, E x → x < w.heap.size) (h0 : 0 ≤ s.id) (h4 : s.id + csize c ≤ 4000000000) :
    Calls Tryz.prog 64 #[.pointer (some ⟨bm, 0, none⟩), v] w (MakePost w bm be g F E most (mkC most c s)) := by
  obtain ⟨base, cap, rfl, hc1, hc2⟩ := h.form
  have hoa := (okC_parts ho).2
  have hs := csize_eq c
  have hlen := csize_len c
  have hkind := fun w' (k : Keeps [] w w') => build_kind (CoreAt.keep (w' := w') (k.fix (fun b hb => ⟨(hS b hb).1, by simp⟩)) _ _ h)
  have he := mkC_eq most c s
  rw [if_neg hk1, if_neg hk9, if_neg hk10] at he
  have kk : (Keeps [] w (w.alloc (.cells #[.int .i64 c.kind, .int .i64 c.n, .slice base c.args.length cap] 46))) := (Keeps.refl _ _).alloc _
  have KK := Lib.hid kk
  have bE := Blk.new w #[.int .i64 c.kind, .int .i64 c.n, .slice base c.args.length cap] 46
  have e1 : (c.kind == 1) = false := by simp [hk1]
  have e9 : (c.kind == 9) = false := by simp [hk9]
  have e10 : (c.kind == 10) = false := by simp [hk10]
  have hmlt := hm.lt
  have hbml := hm.blk.lt
  have hcase : ((c.kind == 7) = true ∧ (c.kind == 6) = false) ∨ ((c.kind == 7) = false ∧ (c.kind == 6) = true) ∨ ((c.kind == 7) = false ∧ (c.kind == 6) = false) := by
    by_cases h1 : c.kind = 7
    · exact .inl ⟨by simp [h1], by simp [h1]⟩
    · by_cases h2 : c.kind = 6
      · exact .inr (.inl ⟨by simp [h1], by simp [h2]⟩)
      · exact .inr (.inr ⟨by simp [h1], by simp [h2]⟩)
  have HH := Lib.hid (And.intro hm (And.intro hS (And.intro h (And.intro hkind bE))))
  obtain ⟨n', hn'⟩ : ∃ n', n' = if c.kind = 7 then s.id else if c.kind = 6 then 0 else c.n := ⟨_, rfl⟩
  obtain ⟨s1, hs1⟩ : ∃ s1 : St, s1 = if c.kind = 7 then { s with id := s.id + 1 } else s := ⟨_, rfl⟩
  simp only at he
  rw [← hn', ← hs1] at he
  have HE := Lib.hid he
  clear he hm hS h ho hk1 hk9 hk10 hkind kk bE
  generalize hkc : c.kind = k at *
  generalize c.n = m at *
  generalize hM : c.args.length = M at *
  have HM := Lib.hid (And.intro hkc hM)
  clear hkc hM
  unfold maxLen at hc2
  go_enter Tryz.func64, Tryz.ntmps64
  go_upto_region 11 with fail
  go_cut [7] (fun s7 wx => NewMid w #[.int .i64 k, .int .i64 m, .slice base M cap] #[.int .i64 (kindK k), .int .i64 m, .slice none 0 0] s7 wx)
  case first =>
    obtain ⟨hm, hS, h, hkind, bE⟩ := HH.out
    have bE := bE.drew
    have kk := KK.out.drew
    refine wp_region_X (fun w' => w'.cell? ⟨w.heap.size, 0, none⟩ = some (.int .i64 k) ∧ w'.cell? ⟨w.heap.size, 1, none⟩ = some (.int .i64 m) ∧ w'.cell? ⟨w.heap.size, 2, none⟩ = some (.slice base M cap)) [4, 6] (by kernel_rfl) ?_
    have hS0 := cells3 bE
    refine wpAnyX_take [0, 2, 3] 4 (by kernel_rfl) (fun _ _ d _ _ h => by cases d <;> exact h) (by kernel_rfl) (by simp only [List.map_cons, List.map_nil, List.getElem?_toArray, List.getElem?_cons_zero, List.getElem?_cons_succ]; rfl) hS0 ?_
    repeat (refine SegThen.step (v := ?_) (by rfl) (fun w' hSw => ?_) ?_; rotate_left 1; (focus ((try dsimp only at hSw); go_simp; (try with_reducible rfl))); simp only [Act.put, List.setIfInBounds_toArray, List.set_cons_zero, List.set_cons_succ])
    refine SegThen.nil ?_
    refine wpAnyX_two 1 5 (by kernel_rfl) (by simp only [List.getElem?_toArray, List.getElem?_cons_zero, List.getElem?_cons_succ]; rfl) (by simp only [List.getElem?_toArray, List.getElem?_cons_zero, List.getElem?_cons_succ]; rfl) ?_ ?_
    · go_wp2_with fail
      refine (hkind _ (by exact kk)).mono ?_
      rintro e w1 ⟨rfl, hk1⟩
      have bE1 := bE.keep hk1 (by simp)
      have kw1 := kk.trans0 hk1
      have hsz := kw1.size
      have hel := bE1.lt
      have H1 := Lib.hid (And.intro bE1 kw1)
      clear hm hS h hkind bE kk hk1 hS0 kw1 bE1
      go_wp2_with fail
      refine QX_intro (fun _ => cells3 H1.out.1) ?_
      refine wpAnyX_take0 [4] 2 (by kernel_rfl) (fun _ _ d _ _ h => by cases d <;> exact h) (by kernel_rfl) (by simp only [List.map_cons, List.map_nil, List.getElem?_toArray, List.getElem?_cons_zero, List.getElem?_cons_succ]; rfl) ?_
      repeat (refine SegThen.step (v := ?_) (by rfl) (fun w' hSw => ?_) ?_; rotate_left 1; (focus ((try dsimp only at hSw); go_simp; (try with_reducible rfl))); simp only [Act.put, List.setIfInBounds_toArray, List.set_cons_zero, List.set_cons_succ])
      refine SegThen.nil ?_
      refine wpAnyX_one 5 (by kernel_rfl) (by simp only [List.getElem?_toArray, List.getElem?_cons_zero, List.getElem?_cons_succ]; rfl) ?_
      go_wp2_with fail
      refine QX_intro (fun _ => cells3 (H1.out.1.alloc _)) ?_
      refine wpAnyX_tail [6] _ (by kernel_rfl) (by simp only [List.map_cons, List.map_nil, List.getElem?_toArray, List.getElem?_cons_zero, List.getElem?_cons_succ]; rfl) rfl ?_
      dsimp only [List.filterMap, id]
      obtain ⟨bE1, kw1⟩ := H1.out
      have bn := Blk.new w1 #[.int .i64 0, .int .i64 0, .slice none 0 0] 79
      have d0 := bn.cell 0
      have d1 := bn.cell 1
      have d2 := bn.cell 2
      have f0 := bn.frozen 0
      have f1 := bn.frozen 1
      have f2 := bn.frozen 2
      have H2 := Lib.hid (And.intro bE1 (And.intro kw1 bn))
      clear bE1 kw1 bn H1
      go_wp2
      go_meet
      obtain ⟨bE1, kw1, bn⟩ := H2.out
      have hne : w.heap.size ≠ w1.heap.size := by omega
      exact ⟨_, rfl, by omega, kw1.alloc _, bE1.alloc _, Blk.new _ _ _⟩
    · go_wp2_with fail
      have bn := Blk.new (w.alloc (.cells #[.int .i64 k, .int .i64 m, .slice base M cap] 46)).drew #[.int .i64 0, .int .i64 0, .slice none 0 0] 79
      have bE2 := bE.alloc (.cells #[.int .i64 0, .int .i64 0, .slice none 0 0] 79)
      refine QX_intro (fun _ => by exact cells3 bE2) ?_
      refine wpAnyX_one 1 (by kernel_rfl) (by simp only [List.getElem?_toArray, List.getElem?_cons_zero, List.getElem?_cons_succ]; rfl) ?_
      go_wp2_with fail
      refine (hkind _ (by exact kk.alloc _)).mono ?_
      rintro e w1 ⟨rfl, hk1⟩
      have bE1 := bE2.keep hk1 (by simp)
      have bn1 := bn.keep hk1 (by simp)
      have kw1 := (kk.alloc _).trans0 hk1
      have H1 := Lib.hid (And.intro bE1 (And.intro kw1 bn1))
      have bn1' : Blk w1 (w.heap.size + 1) #[.int .i64 0, .int .i64 0, .slice none 0 0] 79 := by simpa using bn1
      have d0 := bn1'.cell 0
      have d1 := bn1'.cell 1
      have d2 := bn1'.cell 2
      have f0 := bn1'.frozen 0
      have f1 := bn1'.frozen 1
      have f2 := bn1'.frozen 2
      clear hm hS h hkind bE kk hk1 hS0 kw1 bE1 bn bE2 bn1 bn1'
      go_wp2_with fail
      refine QX_intro (fun _ => by exact cells3 H1.out.1) ?_
      refine wpAnyX_take0 [4] 1 (by kernel_rfl) (fun _ _ d _ _ h => by cases d <;> exact h) (by kernel_rfl) (by simp only [List.map_cons, List.map_nil, List.getElem?_toArray, List.getElem?_cons_zero, List.getElem?_cons_succ]; rfl) ?_
      repeat (refine SegThen.step (v := ?_) (by rfl) (fun w' hSw => ?_) ?_; rotate_left 1; (focus ((try dsimp only at hSw); go_simp; (try with_reducible rfl))); simp only [Act.put, List.setIfInBounds_toArray, List.set_cons_zero, List.set_cons_succ])
      refine SegThen.nil ?_
      refine wpAnyX_tail [6] _ (by kernel_rfl) (by simp only [List.map_cons, List.map_nil, List.getElem?_toArray, List.getElem?_cons_zero, List.getElem?_cons_succ]; rfl) rfl ?_
      dsimp only [List.filterMap, id]
      go_wp2
      go_meet
      obtain ⟨bE1, kw1, bn1⟩ := H1.out
      have bn1' : Blk w1 (w.heap.size + 1) #[.int .i64 0, .int .i64 0, .slice none 0 0] 79 := by simpa using bn1
      have hne : w.heap.size ≠ w.heap.size + 1 := by omega
      have hsz : w.heap.size ≤ w.heap.size + 1 := by omega
      exact ⟨_, rfl, by omega, ((kw1.setCell (p := ⟨w.heap.size + 1, 0, none⟩) (.inr hsz) _).setCell (p := ⟨w.heap.size + 1, 1, none⟩) (.inr hsz) _).setCell (p := ⟨w.heap.size + 1, 2, none⟩) (.inr hsz) _, ((bE1.setOther (p := ⟨w.heap.size + 1, 0, none⟩) hne _).setOther (p := ⟨w.heap.size + 1, 1, none⟩) hne _).setOther (p := ⟨w.heap.size + 1, 2, none⟩) hne _, ((bn1'.setCell 0 _).setCell 1 _).setCell 2 _⟩
  case rest =>
    obtain ⟨bn, rfl, hNA⟩ := hcut
    obtain ⟨hm, hS, h, hkind, bE⟩ := HH.out
    have hmid := hNA.mid hm
    obtain ⟨x0, x1, x2⟩ := cells3 hNA.e
    obtain ⟨d0, d1, d2⟩ := cells3 hNA.n
    have f0 := hNA.n.frozen 0
    have f1 := hNA.n.frozen 1
    have f2 := hNA.n.frozen 2
    have y0 := hmid.m.blk.cell 0
    have y2 := hmid.m.blk.cell 2
    have yf := hmid.m.blk.frozen 2
    have nbm := hNA.n.ne hmid.m.blk (by decide)
    have neb := hNA.e.ne hmid.m.blk (by decide)
    have nen := hNA.e.ne hNA.n (by decide)
    have MID := Lib.hid hmid
    clear hm hS h hkind bE hNA hmid
    have hpos : (0 : Int) < csize c := by have := csize_pos c; omega
    rcases hcase with ⟨q7, q6⟩ | ⟨q7, q6⟩ | ⟨q7, q6⟩
    all_goals
      go_upto_region 17 with fail
      refine wp_world (fun wx => Mid3 w bm be g F E most s1 #[.int .i64 k, .int .i64 m, .slice base M cap] (kindK k) n' bn wx) (by
        have hFw : ∀ x ∈ F, x < w.heap.size := fun x hx => hmlt x (by simp [hx])
        simp only [beq_iff_eq, beq_eq_false_iff_ne, ne_eq] at q7 q6
        rw [hs1, hn']
        first
          | (rw [if_pos q7, if_pos q7]; exact (MID.out.setN hFw).setId)
          | (rw [if_neg q7, if_neg q7, if_pos q6]; exact MID.out.setN hFw)
          | (rw [if_neg q7, if_neg q7, if_neg q6]; exact MID.out)) ?_
      clear x0 x1 x2 d0 d1 d2 f0 f1 f2 y0 y2 yf nbm neb nen MID
      intro wx hmid
      obtain ⟨x0, x1, x2⟩ := cells3 hmid.e
      have hb1 : 0 ≤ s1.id ∧ s1.id + csizes c.args ≤ 4000000000 := by
        rw [hs1]
        by_cases hk7 : k = 7
        · rw [if_pos hk7]; exact ⟨by show 0 ≤ s.id + 1; omega, by show s.id + 1 + _ ≤ _; omega⟩
        · rw [if_neg hk7]; exact ⟨h0, by omega⟩
      have HR := Lib.hid (And.intro hmid.round hb1)
      clear hmid hb1 hs1 hn'
      go_wp2_with fail
      go_loopg [94] M (fun q s94 wr => ∃ i : Nat, i ≤ M ∧ q = M - i ∧ s94 = .int .i64 (i : Nat) ∧ ∃ v done F' s', done.length = i ∧ RoundAt w bm be g F E most #[.int .i64 k, .int .i64 m, .slice base M cap] (kindK k) n' bn v done F' s' wr ∧ (done ++ (mkA most (c.args.drop i) s').1, (mkA most (c.args.drop i) s').2) = mkA most c.args s1 ∧ 0 ≤ s'.id ∧ s'.id + csizes (c.args.drop i) ≤ 4000000000)
      case atStart => exact ⟨0, Nat.zero_le _, rfl, rfl, _, [], F, s1, rfl, HR.out.1, by simp, by simpa using HR.out.2⟩
      case round =>
        obtain ⟨i, hi, rfl, rfl, v, done, F', s', hd, hR, hA, hi0, hi4⟩ := hrel
        by_cases hlt : i < M
        · obtain ⟨hm, hS, h, _, _⟩ := HH.out
          have fixr : Fix S w wr := hR.k.fix (fun b hb => ⟨(hS b hb).1, by have := hS b hb; simp; exact this.2⟩)
          obtain ⟨g0, off, k1, m1, sv, x, rfl, hx, hSg, hg, r0, r1, r2, hx3⟩ := h.step fixr hlt
          obtain ⟨sb, sc, rfl⟩ := hx3.slice
          obtain ⟨va, vac, rfl, _⟩ := ownsRow_zero hR.own
          have hokx := okA_at _ _ _ hx hoa
          have hdr : csizes (c.args.drop i) = csize x + csizes (c.args.drop (i + 1)) := by rw [drop_cons hx, csizes]
          have hxs := csize_arg hx
          have hidx := mkC_id most x s'
          have hFw : ∀ x ∈ F, x < w.heap.size := fun x hx => hmlt x (by simp [hx])
          have hEv : ∀ z, (E z ∨ (Value.slice va done.length vac).ownBlock = some z) → z < wr.heap.size := fun z hz => by
            rcases hz with h1 | h1
            · have := hE z h1; have := hR.k.size; omega
            · exact (hR.own.lt z h1).2
          have hSr : ∀ b, S b → b < wr.heap.size ∧ b ≠ bm ∧ b ≠ be ∧ b ∉ F' := fun b hb => by
            have h1 := hS b hb
            refine ⟨by have := hR.k.size; omega, h1.2.1, h1.2.2.1, fun hh => ?_⟩
            rcases hR.f _ hh with h2 | h2
            · exact h1.2.2.2 h2
            · have := hR.lt; omega
          have kx : Keeps [] wr (wr.alloc (.cells #[.int .i64 k1, .int .i64 m1, .slice sb x.args.length sc] 46)).drew := ((Keeps.refl _ _).alloc _).drew
          have hCX := IH S (wr.alloc (.cells #[.int .i64 k1, .int .i64 m1, .slice sb x.args.length sc] 46)).drew x _ bm be g F' (fun z => E z ∨ (Value.slice va done.length vac).ownBlock = some z) most s' (by omega) (by omega) hokx (CoreAt.keep (kx.fix (fun b hb => ⟨(hSr b hb).1, by simp⟩)) _ _ hx3) (fun b hb => ⟨Nat.lt_of_lt_of_le (hSr b hb).1 kx.size, (hSr b hb).2⟩) (hR.m.keep0 kx) (fun z hz => Nat.lt_of_lt_of_le (hEv z hz) kx.size) hi0 (by omega)
          have bnc := hR.n.cell 2
          have hbl := hR.n.lt
          have hRl : ∀ z ∈ bm :: be :: F', z < wr.heap.size := hR.m.lt
          have HL := Lib.hid (And.intro hR (And.intro hA (And.intro hCX (And.intro hx (And.intro kx (And.intro hRl (And.intro hFw hd)))))))
          clear hm hS h fixr hx hx3 hokx hR hA hEv hSr hCX hFw hRl kx hd
          go_upto_region 20 with fail
          have bx := Blk.new wr #[.int .i64 k1, .int .i64 m1, .slice sb x.args.length sc] 46
          have hS0 := And.intro (((HL.out.1.n.alloc (.cells #[.int .i64 k1, .int .i64 m1, .slice sb x.args.length sc] 46)).drew).cell 2) (cells3 bx.drew)
          refine wp_region_X (fun w' => w'.cell? ⟨bn, 2, none⟩ = some (.slice va done.length vac) ∧ w'.cell? ⟨wr.heap.size, 0, none⟩ = some (.int .i64 k1) ∧ w'.cell? ⟨wr.heap.size, 1, none⟩ = some (.int .i64 m1) ∧ w'.cell? ⟨wr.heap.size, 2, none⟩ = some (.slice sb x.args.length sc)) [6, 7, 8] (by kernel_rfl) ?_
          refine wpAnyX_take [0, 1, 2, 3] 5 (by kernel_rfl) (fun _ _ d _ _ h => by cases d <;> exact h) (by kernel_rfl) (by simp only [List.map_cons, List.map_nil, List.getElem?_toArray, List.getElem?_cons_zero, List.getElem?_cons_succ]; rfl) hS0 ?_
          repeat (refine SegThen.step (v := ?_) (by rfl) (fun w' hSw => ?_) ?_; rotate_left 1; (focus ((try dsimp only at hSw); go_simp; (try with_reducible rfl))); simp only [Act.put, List.setIfInBounds_toArray, List.set_cons_zero, List.set_cons_succ])
          refine SegThen.nil ?_
          refine wpAnyX_one 4 (by kernel_rfl) (by simp only [List.getElem?_toArray, List.getElem?_cons_zero, List.getElem?_cons_succ]; rfl) ?_
          go_wp2_with fail
          refine (by exact HL.out.2.2.1 : Calls _ _ _ _ _).mono ?_
          rintro e w2 ⟨F2, rfl, hm2, hk2, hF2⟩
          obtain ⟨hR, hA, _, hx, kx, hRl, hFw, hd⟩ := HL.out
          have nbn := hR.bnF hFw
          have nx : wr.heap.size ∉ bm :: be :: F' := fun hh => by have := hRl _ hh; omega
          have n2 := ((hR.n.alloc (.cells #[.int .i64 k1, .int .i64 m1, .slice sb x.args.length sc] 46)).drew).keep hk2 nbn
          have bx2 := bx.drew.keep hk2 nx
          have kr2 : Keeps (bm :: be :: F') wr w2 := kx.of0.trans hk2 (fun z hz => .inl hz)
          have hF2' : ∀ z ∈ F2, z ∈ F' ∨ wr.heap.size < z := fun z hz => (hF2 z hz).imp id (fun h => by simp at h; omega)
          have own2 := ownsRow_keep hR.own kr2 (fun z hz => hR.ownF z (by simpa using hz))
          have HN := Lib.hid (And.intro n2 (And.intro bx2 (And.intro own2 (And.intro hm2 (And.intro kr2 hF2')))))
          clear hR hA hx kx hRl hFw n2 bx2 own2 hm2 kr2 hF2' hk2 hF2 hS0 bx nbn nx bnc hd
          go_wp2_with fail
          refine QX_intro (fun _ => by exact And.intro (HN.out.1.cell 2) (cells3 HN.out.2.1)) ?_
          refine wpAnyX_one 5 (by kernel_rfl) (by simp only [List.getElem?_toArray, List.getElem?_cons_zero, List.getElem?_cons_succ]; rfl) ?_
          go_wp2_with fail
          refine QX_intro (fun _ => by exact And.intro ((HN.out.1.alloc _).cell 2) (cells3 (HN.out.2.1.alloc _))) ?_
          refine wpAnyX_tail [6, 7, 8] _ (by kernel_rfl) (by simp only [List.map_cons, List.map_nil, List.getElem?_toArray, List.getElem?_cons_zero, List.getElem?_cons_succ]; rfl) rfl ?_
          dsimp only [List.filterMap, id]
          obtain ⟨i3, hi3, hz3, hs3, hy3⟩ := info_parts Tryz.info3
          refine wpList_append_lies _ rfl _ _ 71 rfl w.heap.size 3 i3 (.int .i64 0) 1 8 Tryz.underlying71 hi3 hz3 hs3 hy3 rfl (by decide) (.slice va done.length vac) done.length (ints done) rfl ?_ _ 1 1 [.int .i64 (mkC most x s').1] rfl rfl ?_ ?_ (by decide) ?_ ?_ ?_ _ rfl ?_
          · exact HN.out.2.2.1.alloc _
          · exact cells_of_blk (heap_alloc_new _ _)
          · simp [Value.oneCell']
          · have := HL.out.2.2.2.2.2.2.2; unfold maxLen; omega
          · have := HL.out.2.2.2.2.2.2.2; omega
          · have := HN.out.2.2.2.2.1.size; have := HL.out.1.k.size; simp; omega
          intro g1 cap1 w4 ho1 hgrow1 hat1 hgl1
          obtain ⟨n2, bx2, own2, hm2, kr2, hF2⟩ := HN.out
          obtain ⟨hR, hA, _, hx, _, _, hFw, hd⟩ := HL.out
          have own3 := own2.alloc (.cells #[.int .i64 (mkC most x s').1] 3)
          have n3 := n2.alloc (.cells #[.int .i64 (mkC most x s').1] 3)
          have n4 := n3.grown hgrow1 (Ne.symm (own_ne n3 (ownsRow_le own3 (Nat.zero_le _)) (by decide)))
          have d2 := n4.cell 2
          have f2 := n4.frozen 2
          have hRR := RoundAt.next hE hFw hR hm2 kr2 hF2 ((Keeps.refl _ _).alloc _) ho1 hgrow1 hat1
          have hAA := mkA_drop most hx hA
          have HF := Lib.hid (And.intro hRR (And.intro hAA hd))
          clear hR hA hx hFw n2 bx2 own2 hm2 kr2 hF2 own3 n3 n4 hRR hAA ho1 hgrow1 hat1 HN HL hd
          go_wp2
          go_roundg (M - (i + 1))
          case measure => omega
          case rel => exact ⟨i + 1, by omega, rfl, by go_num, _, _, F2, (mkC most x s').2, by simp [HF.out.2.2], HF.out.1, HF.out.2.1, by omega, by omega⟩
        · obtain rfl : i = M := by omega
          have hRl : ∀ z ∈ bm :: be :: F', z < wr.heap.size := hR.m.lt
          have hEv : ∀ z, (E z ∨ v.ownBlock = some z) → z < wr.heap.size := fun z hz => by
            rcases hz with h1 | h1
            · have := hE z h1; have := hR.k.size; omega
            · exact (hR.own.lt z h1).2
          have hAA : mkA most c.args s1 = (done, s') := by
            rw [← hA, List.drop_of_length_le (by rw [HM.out.2]; exact Nat.le_refl _)]
            simp [mkA]
          obtain ⟨va, vac, rfl, _⟩ := ownsRow_zero hR.own
          have y0 := hR.m.blk.cell 0
          obtain ⟨d0, d1, d2⟩ := cells3 hR.n
          have hsw := hR.k.size
          have HL := Lib.hid (And.intro hR (And.intro hRl (And.intro hEv (And.intro hAA (And.intro hd hsw)))))
          clear hR hRl hEv hAA hA hi4 hi0 hd hsw
          go_upto_region 22 with fail
          refine wp_region_X (fun w' => w'.cell? ⟨bm, 0, none⟩ = some (.pointer (some ⟨g, 0, none⟩)) ∧ w'.cell? ⟨bn, 0, none⟩ = some (.int .i64 (kindK k)) ∧ w'.cell? ⟨bn, 1, none⟩ = some (.int .i64 n') ∧ w'.cell? ⟨bn, 2, none⟩ = some (.slice va done.length vac)) [5, 6, 7, 8, 9, 10] (by kernel_rfl) ?_
          have hS0 : wr.drew.cell? ⟨bm, 0, none⟩ = some (.pointer (some ⟨g, 0, none⟩)) ∧ wr.drew.cell? ⟨bn, 0, none⟩ = some (.int .i64 (kindK k)) ∧ wr.drew.cell? ⟨bn, 1, none⟩ = some (.int .i64 n') ∧ wr.drew.cell? ⟨bn, 2, none⟩ = some (.slice va done.length vac) := ⟨y0, d0, d1, d2⟩
          refine wpAnyX_take [0, 1, 2, 3, 4] 6 (by kernel_rfl) (fun _ _ d _ _ h => by cases d <;> exact h) (by kernel_rfl) (by simp only [List.map_cons, List.map_nil, List.getElem?_toArray, List.getElem?_cons_zero, List.getElem?_cons_succ]; rfl) hS0 ?_
          repeat (refine SegThen.step (v := ?_) (by rfl) (fun w' hSw => ?_) ?_; rotate_left 1; (focus ((try dsimp only at hSw); go_simp; (try with_reducible rfl))); simp only [Act.put, List.setIfInBounds_toArray, List.set_cons_zero, List.set_cons_succ])
          refine SegThen.nil ?_
          refine wpAnyX_run [5, 6] _ 4 (by kernel_rfl) (by simp only [List.map_cons, List.map_nil, List.getElem?_toArray, List.getElem?_cons_zero, List.getElem?_cons_succ]; rfl) rfl ?_
          dsimp only [List.filterMap, id]
          clear hS0
          go_wp2_with fail
          refine (node_put (S := fun b => (Value.slice va done.length vac).ownBlock = some b) (by exact HL.out.1.m.gr.keep0 (Keeps.refl _ _).drew) (by exact HL.out.2.2.1) (by exact RowAt.of_owns (ownsRow_drew HL.out.1.own)) (fun b hb => by exact HL.out.2.2.1 b (.inr hb)) (by have := HL.out.2.2.2.2.1; omega)).mono ?_
          intro e w5 hpp
          obtain ⟨pb, F5, rfl, hq⟩ := hpp.put (HL.out.1.m.gr.keep0 (Keeps.refl _ _).drew)
          have HQ := Lib.hid hq
          clear hq hpp
          go_wp2
          refine QR_intro ?_
          refine wpAnyX_take0 [7, 8] 2 (by kernel_rfl) (fun _ _ d _ _ h => by cases d <;> exact h) (by kernel_rfl) (by simp only [List.map_cons, List.map_nil, List.getElem?_toArray, List.getElem?_cons_zero, List.getElem?_cons_succ]; rfl) ?_
          repeat (refine SegThen.step (v := ?_) (by rfl) (fun w' hSw => ?_) ?_; rotate_left 1; (focus ((try dsimp only at hSw); go_simp; (try with_reducible rfl))); simp only [Act.put, List.setIfInBounds_toArray, List.set_cons_zero, List.set_cons_succ])
          refine SegThen.nil ?_
          refine wpAnyX_tail [9, 10] _ (by kernel_rfl) (by simp only [List.map_cons, List.map_nil, List.getElem?_toArray, List.getElem?_cons_zero, List.getElem?_cons_succ]; rfl) rfl ?_
          dsimp only [List.filterMap, id]
          go_wp2
          go_ret
          obtain ⟨hg5, hk5, hF5⟩ := HQ.out
          obtain ⟨hR, hRl, hEv, hAA, hd, hsw⟩ := HL.out
          obtain ⟨q1, q2, q3⟩ := hR.fin hsw hmlt hg5 hk5.drewL hF5
          rw [HE.out, hAA]
          exact ⟨F5, rfl, q1, q2, q3⟩

theorem build_make : ∀ N, MakeSaid N := by
  intro N
  induction N with
  | zero => intro S w c v bm be g F E most s hN; have := csize_pos c; omega
  | succ N IH =>
    intro S w c v bm be g F E most s hN hN2 ho h hS hm hE h0 h4
    by_cases h1 : c.kind = 1
    · exact make_var h1 h hm
    · by_cases h9 : c.kind = 9
      · exact make_let IH hN2 hN h9 ho h hS hm hE h0 h4
      · by_cases h10 : c.kind = 10
        · exact make_free IH hN2 hN h10 ho h hS hm hE h0 h4
        · exact make_node IH hN2 hN h1 h9 h10 ho h hS hm hE h0 h4

end Go.Proofs.YtokbjopmfcggdaaGreat
