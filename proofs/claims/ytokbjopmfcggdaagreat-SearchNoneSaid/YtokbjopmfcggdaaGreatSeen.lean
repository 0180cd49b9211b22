/- build.seen, Bound. -/
import Derived.Test.YtokbjopmfcggdaaGreatBound
namespace Go.Proofs.YtokbjopmfcggdaaGreat
open Go.RowKit
set_option linter.unusedVariables false
set_option linter.unusedSimpArgs false
set_option linter.unnecessarySimpa false

mutual
def seenC (n : Int) : Core → List Int → Bool
  | .mk k m a, around => partsK k a.length && (if k = 1 then (decide (0 ≤ m) && decide (m < n)) || decide (m ∈ around) else seenA n k m 0 a around)
def seenA (n k m : Int) (i : Nat) : List Core → List Int → Bool
  | [], _ => true
  | c :: r, around => seenC n c (if k = 10 ∨ (k = 9 ∧ i = 1) then around ++ [m] else around) && seenA n k m (i + 1) r around
end
theorem seenC_eq (n : Int) (c : Core) (around : List Int) : seenC n c around = (partsC c && (if c.kind = 1 then (decide (0 ≤ c.n) && decide (c.n < n)) || decide (c.n ∈ around) else seenA n c.kind c.n 0 c.args around)) := by cases c; rw [seenC]; rfl

def SeenSaid (N : Nat) : Prop := ∀ (S T : Nat → Prop) (w : World) (c : Core) (v va : Value) (around : List Int) (n : Int), csize c ≤ N → N ≤ 1048576 → around.length + csize c ≤ 1000000 → CoreAt S w c v → (∀ b, S b → b < w.heap.size) → RowAt T w 1 va around.length (ints around) → (∀ b, T b → b < w.heap.size) →
  Calls Tryz.prog 83 #[v, .int .i64 n, va] w (RetBool w (seenC n c around))

/-- What the statement 'inner := ..' leaves. -/
def InnerAt (w : World) (k m : Int) (sv : Value) (around : List Int) (s7 : Value) (wx : World) : Prop :=
  wx.ownsRow w.heap.size 3 1 s7 (around.length + 1) (ints (around ++ [m])) ∧ Keeps [] w wx ∧ Blk wx w.heap.size #[.int .i64 k, .int .i64 m, sv] 46

set_option maxHeartbeats 1000000 in
theorem build_seen : ∀ N, SeenSaid N := by
  intro N
  induction N with
  | zero => intro S T w c v va around n hN _ _ _ _ _ _; have := csize_pos c; omega
  | succ N IH =>
    intro S T w c v va around n hN hN2 hN3 h hS hT hT2
    obtain ⟨base, cap, rfl, hc1, hc2⟩ := h.form
    have hlen := csize_len c
    have hs := csize_eq c
    have HE := Lib.hid (seenC_eq n c around)
    have hp := fun o : Obj => build_parts (CoreAt.keep (w' := w.alloc o) (fun b hb => Below.heap_alloc _ _ _ (hS b hb)) _ _ h)
    have HP := Lib.hid hp
    have hrow := fun (w' : World) (k : Keeps [] w w') => hT.keep (k.fix (fun b hb => ⟨hT2 b hb, by simp⟩))
    have HROW := Lib.hid hrow
    obtain ⟨ab, ac, rfl, hac1, _⟩ := hT.form
    clear hp hrow
    by_cases hpt : partsC c = true
    · by_cases hk1 : c.kind = 1
      · have he : seenC n c around = ((decide (0 ≤ c.n) && decide (c.n < n)) || decide (c.n ∈ around)) := by rw [HE.out, hpt, if_pos hk1]; rfl
        have e1 : (c.kind == 1) = true := by simp [hk1]
        have hco := fun (w' : World) (k : Keeps [] w w') => contains_int (HROW.out w' k) c.n
        have HH := Lib.hid (And.intro he hco)
        rw [hpt] at HP
        clear he h hS hT hT2 hk1 HE hco hpt
        generalize c.kind = k at *
        generalize c.n = m at *
        generalize hM : c.args.length = M at *
        have HM := Lib.hid hM
        clear hM
        unfold maxLen at hc2
        have hcase : (0 ≤ m ∧ m < n) ∨ ¬ (0 ≤ m ∧ m < n) := Classical.em _
        rcases hcase with ⟨h1, h2⟩ | h12
        · go_enter Tryz.func83, Tryz.ntmps83
          go_wp2_with (first | (go_at_call 101; refine (HP.out _).mono ?_; rintro e w1 ⟨rfl, hk⟩; have bx := (Blk.new w #[.int .i64 k, .int .i64 m, .slice base M cap] 46).keep hk (by simp); have x0 := bx.cell 0; have x1 := bx.cell 1; have HK := Lib.hid hk; clear hk bx))
          go_ret
          exact RetBool.mk (by rw [HH.out.1]; simp [h1, h2]) (((Keeps.refl _ _).alloc _).trans0 HK.out)
        · have hno : (decide (0 ≤ m) && decide (m < n)) = false := by simp; omega
          by_cases h1 : 0 ≤ m
          all_goals
            go_enter Tryz.func83, Tryz.ntmps83
            go_wp2_with (first | (go_at_call 101; refine (HP.out _).mono ?_; rintro e w1 ⟨rfl, hk⟩; have bx := (Blk.new w #[.int .i64 k, .int .i64 m, .slice base M cap] 46).keep hk (by simp); have x0 := bx.cell 0; have x1 := bx.cell 1; have HK := Lib.hid hk; clear hk bx) | (go_at_call 56; refine (HH.out.2 _ (((Keeps.refl _ _).alloc _).trans0 HK.out)).mono ?_; rintro e w' ⟨rfl, rfl⟩))
            go_ret
            exact RetBool.mk (by rw [HH.out.1, hno]; first | (simp; done) | (simp; intro h; omega)) (((Keeps.refl _ _).alloc _).trans0 HK.out)
      · have he : seenC n c around = seenA n c.kind c.n 0 c.args around := by rw [HE.out, hpt, if_neg hk1]; rfl
        have e1 : (c.kind == 1) = false := by simp [hk1]
        have HH := Lib.hid (And.intro he (And.intro h (And.intro hS (And.intro hT hT2))))
        clear he h hS hT hT2 hk1 HE
        rw [hpt] at HP
        clear hpt
        generalize c.kind = k at *
        generalize c.n = m at *
        generalize hM : c.args.length = M at *
        have HM := Lib.hid hM
        clear hM
        unfold maxLen at hc2
        go_enter Tryz.func83, Tryz.ntmps83
        go_upto_region 5 with (first | (go_at_call 101; refine (HP.out _).mono ?_; rintro e w1 ⟨rfl, hk⟩; have x0 := ((Blk.new w #[.int .i64 k, .int .i64 m, .slice base M cap] 46).keep hk (by simp)).cell 0; have HK := Lib.hid hk; clear hk))
        go_cut [7] (fun s7 wx => InnerAt w k m (.slice base M cap) around s7 wx)
        case first =>
          obtain ⟨i3, hi3, hz3, hs3, hy3⟩ := info_parts Tryz.info3
          have hk1 := HK.out
          have bx := (Blk.new w #[.int .i64 k, .int .i64 m, .slice base M cap] 46).keep hk1 (by simp)
          have hkw : Keeps [] w w1 := ((Keeps.refl _ _).alloc _).trans0 hk1
          have hsz := hkw.size
          have hr0 := HROW.out _ hkw
          obtain ⟨_, _, _, _, hT2⟩ := HH.out
          have hal : around.length ≤ 1000000 := by omega
          refine wp_region_X (fun w' => w'.cell? ⟨w.heap.size, 1, none⟩ = some (.int .i64 m)) [0, 4, 5, 6] (by kernel_rfl) ?_
          have hS0 : w1.drew.cell? ⟨w.heap.size, 1, none⟩ = some (.int .i64 m) := bx.cell 1
          refine wpAnyX_take0 [0] 6 (by kernel_rfl) (fun _ _ d _ _ h => by cases d <;> exact h) (by kernel_rfl) (by simp only [List.map_cons, List.map_nil, List.getElem?_toArray, List.getElem?_cons_zero, List.getElem?_cons_succ]; rfl) ?_
          repeat (refine SegThen.step (v := ?_) (by rfl) (fun w' hSw => ?_) ?_; rotate_left 1; (focus ((try dsimp only at hSw); go_simp; (try with_reducible rfl))); simp only [Act.put, List.setIfInBounds_toArray, List.set_cons_zero, List.set_cons_succ])
          refine SegThen.nil ?_
          refine wpAnyX_take [2, 3] 4 (by kernel_rfl) (fun _ _ d _ _ h => by cases d <;> exact h) (by kernel_rfl) (by simp only [List.map_cons, List.map_nil, List.getElem?_toArray, List.getElem?_cons_zero, List.getElem?_cons_succ]; rfl) hS0 ?_
          repeat (refine SegThen.step (v := ?_) (by rfl) (fun w' hSw => ?_) ?_; rotate_left 1; (focus ((try dsimp only at hSw); go_simp; (try with_reducible rfl))); simp only [Act.put, List.setIfInBounds_toArray, List.set_cons_zero, List.set_cons_succ])
          refine SegThen.nil ?_
          clear hS0
          refine wpAnyX_two 1 4 (by kernel_rfl) (by simp only [List.getElem?_toArray, List.getElem?_cons_zero, List.getElem?_cons_succ]; rfl) (by simp only [List.getElem?_toArray, List.getElem?_cons_zero, List.getElem?_cons_succ]; rfl) ?_ ?_
          · go_wp2_with fail
            refine (clone_ints (by exact hr0) hal (ints_oneCell _)).mono ?_
            rintro e w2 ⟨v', rfl, ho, hk2⟩
            have bx2 := bx.drew.keep hk2 (by simp)
            have hkw2 : Keeps [] w w2 := hkw.drew.trans0 hk2
            have ho2 := ownsRow_le ho (show w.heap.size ≤ _ by simpa using hsz)
            obtain ⟨cb, cc, rfl, _⟩ := ownsRow_zero ho2
            have H2 := Lib.hid (And.intro bx2 (And.intro hkw2 ho2))
            clear ho hk2 bx2 hkw2 ho2
            go_wp2_with fail
            refine QX_intro (fun _ => H2.out.1.cell 1) ?_
            refine wpAnyX_tail [4, 5, 6] _ (by kernel_rfl) (by simp only [List.map_cons, List.map_nil, List.getElem?_toArray, List.getElem?_cons_zero, List.getElem?_cons_succ]; rfl) rfl ?_
            dsimp only [List.filterMap, id]
            go_wp2_with (at_builtin; refine wpList_append_lies _ rfl _ _ 71 rfl w.heap.size 3 i3 (.int .i64 0) 1 8 Tryz.underlying71 hi3 hz3 hs3 hy3 rfl (by decide) (.slice cb around.length cc) around.length (ints around) rfl ?_ _ 1 1 [.int .i64 m] rfl rfl ?_ ?_ (by decide) ?_ ?_ ?_ _ rfl ?_)
            · exact H2.out.2.2.alloc _
            · exact cells_of_blk (heap_alloc_new _ _)
            · simp [Value.oneCell']
            · unfold maxLen; omega
            · omega
            · have := H2.out.2.1.size; simp; omega
            intro g1 cap1 w3 ho1 hgrow1 hat1 hgl1
            obtain ⟨bx2, hkw2, ho2⟩ := H2.out
            have hin : InnerAt w k m (.slice base M cap) around (.slice (some ⟨g1, 0, none⟩) (around.length + 1) cap1) w3 := ⟨by simpa [ints] using ho1, (hkw2.alloc _).grown hgrow1 (fun x hx => .inr (ho2.lt x hx).1), (bx2.alloc _).grown hgrow1 (Ne.symm (own_ne bx2 (ownsRow_le ho2 (Nat.zero_le _)) (by decide)))⟩
            clear ho1 hgrow1 hat1 bx2 hkw2 ho2
            go_wp2
            go_meet
            exact hin
          · go_wp2
            refine QX_intro (fun h => absurd h (by decide)) ?_
            have bx1 : Blk (w1.alloc (.cells #[.int .i64 m] 3)).drew w.heap.size #[.int .i64 k, .int .i64 m, .slice base M cap] 46 := bx.alloc _
            have hkw1 : Keeps [] w (w1.alloc (.cells #[.int .i64 m] 3)).drew := (hkw.alloc _).drew
            have hr1 := HROW.out _ hkw1
            have bn : Blk (w1.alloc (.cells #[.int .i64 m] 3)).drew w1.heap.size #[.int .i64 m] 3 := Blk.new _ _ _
            refine wpAnyX_one 1 (by kernel_rfl) (by simp only [List.getElem?_toArray, List.getElem?_cons_zero, List.getElem?_cons_succ]; rfl) ?_
            go_wp2_with fail
            refine (clone_ints (by exact hr1) hal (ints_oneCell _)).mono ?_
            rintro e w2 ⟨v', rfl, ho, hk2⟩
            have bx2 := bx1.keep hk2 (by simp)
            have bn2 := bn.keep hk2 (by simp)
            have hkw2 : Keeps [] w w2 := hkw1.trans0 hk2
            have ho2 := ownsRow_le ho (show w1.heap.size + 1 ≤ _ by simp)
            obtain ⟨cb, cc, rfl, _⟩ := ownsRow_zero ho2
            have H2 := Lib.hid (And.intro bx2 (And.intro hkw2 (And.intro ho2 bn2)))
            clear ho hk2 bx2 hkw2 ho2 bx1 hkw1 hr1 bn bn2
            go_wp2_with fail
            refine QX_intro (fun _ => H2.out.1.cell 1) ?_
            refine wpAnyX_tail [5, 6] _ (by kernel_rfl) (by simp only [List.map_cons, List.map_nil, List.getElem?_toArray, List.getElem?_cons_zero, List.getElem?_cons_succ]; rfl) rfl ?_
            dsimp only [List.filterMap, id]
            go_wp2_with (at_builtin; refine wpList_append_lies _ rfl _ _ 71 rfl w.heap.size 3 i3 (.int .i64 0) 1 8 Tryz.underlying71 hi3 hz3 hs3 hy3 rfl (by decide) (.slice cb around.length cc) around.length (ints around) rfl ?_ _ 1 1 [.int .i64 m] rfl rfl ?_ ?_ (by decide) ?_ ?_ ?_ _ rfl ?_)
            · exact ownsRow_le H2.out.2.2.1 (by omega)
            · exact cells_of_blk H2.out.2.2.2
            · simp [Value.oneCell']
            · unfold maxLen; omega
            · omega
            · have := H2.out.2.1.size; omega
            intro g1 cap1 w3 ho1 hgrow1 hat1 hgl1
            obtain ⟨bx2, hkw2, ho2, bn2⟩ := H2.out
            have hin : InnerAt w k m (.slice base M cap) around (.slice (some ⟨g1, 0, none⟩) (around.length + 1) cap1) w3 := ⟨by simpa [ints] using ho1, hkw2.grown hgrow1 (fun x hx => .inr (by have := (ho2.lt x hx).1; omega)), bx2.grown hgrow1 (Ne.symm (own_ne bx2 (ownsRow_le ho2 (Nat.zero_le _)) (by decide)))⟩
            clear ho1 hgrow1 hat1 bx2 hkw2 ho2 bn2
            go_wp2
            go_meet
            exact hin
        case rest =>
          have hin := hcut
          have bx := hin.2.2
          have x0 := bx.cell 0
          have x2 := bx.cell 2
          obtain ⟨ib, ic, rfl, _⟩ := ownsRow_zero hin.1
          have HI := Lib.hid hin
          have hbl := bx.lt
          clear hin hcut bx
          go_wp2_with fail
          go_loopg [41] M (fun q s41 wr => ∃ i : Nat, i ≤ M ∧ q = M - i ∧ s41 = .int .i64 (i : Nat) ∧ seenA n k m i (c.args.drop i) around = seenC n c around ∧ Keeps [] wc wr)
          case atStart => exact ⟨0, Nat.zero_le _, rfl, rfl, by rw [HH.out.1]; rfl, Keeps.refl _ _⟩
          case round =>
            obtain ⟨i, hi, rfl, rfl, hR0, hK⟩ := hrel
            by_cases hlt : i < M
            · obtain ⟨_, h, hS, hT, hT2⟩ := HH.out
              have hkw : Keeps [] w wr := HI.out.2.1.trans0 hK
              obtain ⟨g, off, k1, m1, sv, x, rfl, hx, hSg, hg, e0, e1', e2, hx3⟩ := h.step (hkw.fix (fun b hb => ⟨hS b hb, by simp⟩)) hlt
              have hdr := drop_cons hx
              have hsz := hkw.size
              have hxs := csize_arg hx
              have hcx := fun o => CoreAt.keep (w' := wr.alloc o) (fun b hb => Below.heap_alloc _ _ _ (by have := hS b hb; omega)) _ _ hx3
              have hCA := fun o => IH S T (wr.alloc o) x _ _ around n (by omega) (by omega) (by omega) (hcx o) (fun b hb => by have := hS b hb; simp; omega) (HROW.out _ (hkw.alloc o)) (fun b hb => by have := hT2 b hb; simp; omega)
              have hrI : RowAt (fun b => (Value.slice ib (around.length + 1) ic).ownBlock = some b) wc 1 (.slice ib (around.length + 1) ic) (around ++ [m]).length (ints (around ++ [m])) := by simpa using RowAt.of_owns HI.out.1
              have hCI := fun o => IH S (fun b => (Value.slice ib (around.length + 1) ic).ownBlock = some b) (wr.alloc o) x _ _ (around ++ [m]) n (by omega) (by omega) (by simp; omega) (hcx o) (fun b hb => by have := hS b hb; simp; omega) (hrI.keep ((hK.alloc o).fix (fun b hb => ⟨(HI.out.1.lt b hb).2, by simp⟩))) (fun b hb => by have := (HI.out.1.lt b hb).2; have := hK.size; simp; omega)
              obtain ⟨sb, sc, rfl⟩ := hx3.slice
              have y0 := (HI.out.2.2.keep hK (by simp)).cell 0
              have hsz2 := hK.size
              have hbl2 : w.heap.size < wr.heap.size := by omega
              clear h hS hT hT2 hx hx3 hcx hrI hkw x0
              have hcase : k = 10 ∨ ((k == 10) = false ∧ k = 9 ∧ i = 1) ∨ ((k == 10) = false ∧ k = 9 ∧ i ≠ 1) ∨ ((k == 10) = false ∧ (k == 9) = false) := by
                by_cases h1 : k = 10
                · exact .inl h1
                · by_cases h2 : k = 9
                  · by_cases h3 : i = 1
                    · exact .inr (.inl ⟨by simp [h1], h2, h3⟩)
                    · exact .inr (.inr (.inl ⟨by simp [h1], h2, h3⟩))
                  · exact .inr (.inr (.inr ⟨by simp [h1], by simp [h2]⟩))
              rcases hcase with rfl | ⟨q1, rfl, hi1⟩ | ⟨q1, rfl, hi1⟩ | ⟨q1, q2⟩
              · skip
                have hrr : seenC n c around = (seenC n x (around ++ [m]) && seenA n 10 m (i + 1) (c.args.drop (i + 1)) around) := by rw [← hR0, hdr, seenA, if_pos (.inl rfl)]
                have H2 := Lib.hid (And.intro hCI (And.intro hrr hK))
                clear hrr hK hCI hCA hdr hR0
                go_wp2_with fail
                refine (H2.out.1 _).mono ?_
                rintro e w1 ⟨rfl, hk3⟩
                have HK3 := Lib.hid hk3
                clear hk3
                generalize hb : seenC n x (around ++ [m]) = r at *
                have HB := Lib.hid hb
                clear hb
                cases r with
                | true =>
                  go_wp2_with fail
                  go_roundg (M - (i + 1))
                  case measure => omega
                  case rel =>
                    obtain ⟨_, hrr, hK⟩ := H2.out
                    exact ⟨i + 1, by omega, rfl, by go_num, by rw [hrr]; simp, (hK.alloc _).trans0 HK3.out⟩
                | false =>
                  go_wp2_with fail
                  go_ret
                  obtain ⟨_, hrr, hK⟩ := H2.out
                  exact RetBool.mk (by rw [hrr]; simp) (HI.out.2.1.trans0 ((hK.alloc _).trans0 HK3.out))
              · have q3 : ((i : Int) == 1) = true := by simp; omega
                have HI1 := Lib.hid hi1
                clear hi1
                have hrr : seenC n c around = (seenC n x (around ++ [m]) && seenA n 9 m (i + 1) (c.args.drop (i + 1)) around) := by rw [← hR0, hdr, seenA, if_pos (.inr ⟨rfl, HI1.out⟩)]
                have H2 := Lib.hid (And.intro hCI (And.intro hrr hK))
                clear hrr hK hCI hCA hdr hR0
                go_wp2_with fail
                refine (H2.out.1 _).mono ?_
                rintro e w1 ⟨rfl, hk3⟩
                have HK3 := Lib.hid hk3
                clear hk3
                generalize hb : seenC n x (around ++ [m]) = r at *
                have HB := Lib.hid hb
                clear hb
                cases r with
                | true =>
                  go_wp2_with fail
                  go_roundg (M - (i + 1))
                  case measure => omega
                  case rel =>
                    obtain ⟨_, hrr, hK⟩ := H2.out
                    exact ⟨i + 1, by omega, rfl, by go_num, by rw [hrr]; simp, (hK.alloc _).trans0 HK3.out⟩
                | false =>
                  go_wp2_with fail
                  go_ret
                  obtain ⟨_, hrr, hK⟩ := H2.out
                  exact RetBool.mk (by rw [hrr]; simp) (HI.out.2.1.trans0 ((hK.alloc _).trans0 HK3.out))
              · have q3 : ((i : Int) == 1) = false := by simp; omega
                have hrr : seenC n c around = (seenC n x around && seenA n 9 m (i + 1) (c.args.drop (i + 1)) around) := by rw [← hR0, hdr, seenA, if_neg (by omega)]
                have H2 := Lib.hid (And.intro hCA (And.intro hrr hK))
                clear hrr hK hCI hCA hdr hR0
                go_wp2_with fail
                refine (H2.out.1 _).mono ?_
                rintro e w1 ⟨rfl, hk3⟩
                have HK3 := Lib.hid hk3
                clear hk3
                generalize hb : seenC n x around = r at *
                have HB := Lib.hid hb
                clear hb
                cases r with
                | true =>
                  go_wp2_with fail
                  go_roundg (M - (i + 1))
                  case measure => omega
                  case rel =>
                    obtain ⟨_, hrr, hK⟩ := H2.out
                    exact ⟨i + 1, by omega, rfl, by go_num, by rw [hrr]; simp, (hK.alloc _).trans0 HK3.out⟩
                | false =>
                  go_wp2_with fail
                  go_ret
                  obtain ⟨_, hrr, hK⟩ := H2.out
                  exact RetBool.mk (by rw [hrr]; simp) (HI.out.2.1.trans0 ((hK.alloc _).trans0 HK3.out))
              · skip
                have hrr : seenC n c around = (seenC n x around && seenA n k m (i + 1) (c.args.drop (i + 1)) around) := by rw [← hR0, hdr, seenA, if_neg (by simp at q1 q2; omega)]
                have H2 := Lib.hid (And.intro hCA (And.intro hrr hK))
                clear hrr hK hCI hCA hdr hR0
                go_wp2_with fail
                refine (H2.out.1 _).mono ?_
                rintro e w1 ⟨rfl, hk3⟩
                have HK3 := Lib.hid hk3
                clear hk3
                generalize hb : seenC n x around = r at *
                have HB := Lib.hid hb
                clear hb
                cases r with
                | true =>
                  go_wp2_with fail
                  go_roundg (M - (i + 1))
                  case measure => omega
                  case rel =>
                    obtain ⟨_, hrr, hK⟩ := H2.out
                    exact ⟨i + 1, by omega, rfl, by go_num, by rw [hrr]; simp, (hK.alloc _).trans0 HK3.out⟩
                | false =>
                  go_wp2_with fail
                  go_ret
                  obtain ⟨_, hrr, hK⟩ := H2.out
                  exact RetBool.mk (by rw [hrr]; simp) (HI.out.2.1.trans0 ((hK.alloc _).trans0 HK3.out))
            · obtain rfl : i = M := by omega
              have hdn : c.args.drop i = [] := List.drop_eq_nil_of_le (by rw [HM.out]; exact Nat.le_refl _)
              rw [hdn, seenA] at hR0
              have H2 := Lib.hid (And.intro hR0 hK)
              clear hR0 hK hdn
              go_wp2
              go_ret
              exact RetBool.mk H2.out.1 (HI.out.2.1.trans0 H2.out.2)
    · have hf : partsC c = false := by simpa using hpt
      have he : seenC n c around = false := by rw [HE.out, hf]; rfl
      rw [hf] at HP
      have HH := Lib.hid he
      clear he h hS hT hT2 HE hpt hf
      generalize c.kind = k at *
      generalize c.n = m at *
      generalize c.args.length = M at *
      go_enter Tryz.func83, Tryz.ntmps83
      go_wp2_with (first | (go_at_call 101; refine (HP.out _).mono ?_; rintro e w1 ⟨rfl, hk⟩; have HK := Lib.hid hk; clear hk))
      go_ret
      exact RetBool.mk HH.out.symm (((Keeps.refl _ _).alloc _).trans0 HK.out)

/-! ### Bound -/
def boundC (c : Core) (n : Int) : Bool := (slotsC n c []).2 && seenC n c []
theorem build_bound {S : Nat → Prop} {w : World} {c : Core} {v : Value} (n : Int) (hc : csize c ≤ 500000) (h : CoreAt S w c v) (hS : ∀ b, S b → b < w.heap.size) : Calls Tryz.prog 61 #[v, .int .i64 n] w (RetBool w (boundC c n)) := by
  obtain ⟨base, cap, rfl, hc1, hc2⟩ := h.form
  have hs := fun o => build_slots 500000 S (w.alloc o) c _ w.heap.size (.slice none 0 0) [] n hc (by omega) (by simp; omega) (CoreAt.keep (fun b hb => Below.heap_alloc _ _ _ (hS b hb)) _ _ h) hS (by simp) (World.ownsRow_nil _ _ _ _)
  have hse := fun (w' : World) (k : Keeps [] w w') => build_seen 500000 S (fun _ => False) w' c _ (.slice none 0 0) [] n hc (by omega) (by simp; omega) (CoreAt.keep (k.fix (fun b hb => ⟨hS b hb, by simp⟩)) _ _ h) (fun b hb => Nat.lt_of_lt_of_le (hS b hb) k.size) (RowAt.nil _ _ _) (fun b hb => hb.elim)
  have HH := Lib.hid (And.intro hs hse)
  clear hs hse h hS
  unfold boundC
  generalize slotsC n c [] = r at *
  generalize seenC n c [] = s at *
  generalize c.kind = k at *
  generalize c.n = m at *
  generalize c.args.length = M at *
  obtain ⟨r1, r2⟩ := r
  cases r2 with
  | true =>
    go_enter Tryz.func61, Tryz.ntmps61
    go_wp2_with fail
    refine (HH.out.1 _).mono ?_
    rintro e w1 ⟨v', rfl, ho, hk, _⟩
    have hk0 : Keeps [] w w1 := ((Keeps.refl _ _).alloc _).trans hk (fun x hx => by simp [Value.ownBlock] at hx)
    have bx := (Blk.new w #[.int .i64 k, .int .i64 m, .slice base M cap] 46).keep hk (by simp [Value.ownBlock])
    have x0 := bx.cell 0
    have x1 := bx.cell 1
    have x2 := bx.cell 2
    have HK := Lib.hid hk0
    clear ho hk hk0 bx
    go_wp2_with fail
    refine (HH.out.2 _ HK.out).mono ?_
    rintro e w2 ⟨rfl, hk2⟩
    have HK2 := Lib.hid hk2
    clear hk2
    go_wp2_with fail
    go_ret
    exact RetBool.mk (by simp) (HK.out.trans0 HK2.out)
  | false =>
    go_enter Tryz.func61, Tryz.ntmps61
    go_wp2_with fail
    refine (HH.out.1 _).mono ?_
    rintro e w1 ⟨v', rfl, ho, hk, _⟩
    have hk0 : Keeps [] w w1 := ((Keeps.refl _ _).alloc _).trans hk (fun x hx => by simp [Value.ownBlock] at hx)
    have HK := Lib.hid hk0
    clear ho hk hk0
    go_wp2_with fail
    go_ret
    exact RetBool.mk (by simp) HK.out

end Go.Proofs.YtokbjopmfcggdaaGreat
