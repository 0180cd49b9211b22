/- BuildKeeps: the law's walk. -/
import Derived.Test.YtokbjopmfcggdaaKeepsP
namespace Go.Proofs.Ytokbjopmfcggdaa
open Go.RowKit
set_option linter.unusedVariables false
set_option linter.unusedSimpArgs false
set_option linter.unnecessarySimpa false

theorem fewD_args {l : List Dd} (h : fewD l = true) : ∀ d ∈ l, d.nd.args.length ≤ 1000000 := by
  unfold fewD at h
  simp only [Bool.and_eq_true, List.all_eq_true, decide_eq_true_eq] at h
  intro d hd
  have := h.1 d hd
  omega

set_option maxHeartbeats 20000000 in
set_option maxRecDepth 100000 in
theorem law23_keeps {S T U : Nat → Prop} {w : World} {vl ve va : Value} {l : List Dd} {c : Core} {env : List Int} (most i : Int) (hl : DeedsAt S w vl l) (hS : ∀ b, S b → b < w.heap.size) (hc : CoreAt T w c ve) (hT : ∀ b, T b → b < w.heap.size) (hcs : csize c ≤ 1048576) (he : RowAt U w 1 va env.length (ints env)) (hU : ∀ b, U b → b < w.heap.size) :
    Calls Try.prog 3 #[.int .i64 most, vl, ve, va, .int .i64 i] w (RetBool w true) := by
  obtain ⟨lb, lcap, rfl, hl1, hl2⟩ := hl.form
  obtain ⟨base, cap, rfl, hc1, hc2⟩ := hc.form
  obtain ⟨ab, ac, rfl, hac1, hac2, _⟩ := he.form
  have bB := Blk.new w #[.int .i64 c.kind, .int .i64 c.n, .slice base c.args.length cap] 25
  have kk : Keeps [] w (w.alloc (.cells #[.int .i64 c.kind, .int .i64 c.n, .slice base c.args.length cap] 25)) := (Keeps.refl _ _).alloc _
  have deeds := fun w' (k : Keeps [] w w') => DeedsAt.keep hl (k.fix (fun b hb => ⟨hS b hb, by simp⟩))
  have core := fun w' (k : Keeps [] w w') => CoreAt.keep (k.fix (fun b hb => ⟨hT b hb, by simp⟩)) _ _ hc
  have row := fun w' (k : Keeps [] w w') => he.keep (k.fix (fun b hb => ⟨hU b hb, by simp⟩))
  have hfew := fun w' (k : Keeps [] w w') => law20_few (deeds w' k) (fun b hb => Nat.lt_of_lt_of_le (hS b hb) k.size)
  have hfew17 := fun w' (k : Keeps [] w w') => law17_few hcs (core w' k) (fun b hb => Nat.lt_of_lt_of_le (hT b hb) k.size)
  have hall := fun w' (k : Keeps [] w w') => law23_all 1048576 T w' c _ hcs (by omega) (core w' k) (fun b hb => Nat.lt_of_lt_of_le (hT b hb) k.size)
  have hsize := fun w' (k : Keeps [] w w') => ref_size 1048576 T w' c _ hcs (by omega) (core w' k) (fun b hb => Nat.lt_of_lt_of_le (hT b hb) k.size)
  have HB := Lib.hid bB
  have HK := Lib.hid kk
  have HF := Lib.hid (And.intro hfew hfew17)
  have HD := Lib.hid (And.intro deeds (And.intro core (And.intro row (And.intro hS (And.intro hT hU)))))
  have HA := Lib.hid (And.intro hall hsize)
  clear bB kk hfew hfew17 hall hsize deeds core row hl hS hc hT he hU
  generalize hk0 : c.kind = k at *
  generalize hn0 : c.n = n at *
  generalize hM0 : c.args.length = M at *
  clear hk0 hn0 hM0
  generalize hE0 : env.length = E at *
  have HE0 := Lib.hid hE0
  clear hE0
  unfold maxLen at hl2 hc2 hac2
  have haw := fun w' => law23_awake w'
  cases hq1 : fewD l with
  | false =>
    rw [hq1] at HF
    go_enter Try.func3, Try.ntmps3
    go_wp2_with (first | (go_at_call 5; refine (haw _).mono ?_; rintro e w1 ⟨rfl, hk1⟩; have H1 := Lib.hid (HK.out.trans0 hk1); clear hk1) | (go_at_call 6; refine (HF.out.1 _ H1.out).mono ?_; rintro e w2 ⟨rfl, hk2⟩; have H2 := Lib.hid (H1.out.trans0 hk2); clear hk2))
    go_ret
    exact RetBool.mk rfl H2.out
  | true =>
    rw [hq1] at HF
    by_cases hm : most ≤ 100
    · cases hq2 : decide (csize c ≤ 100) with
      | false =>
        rw [hq2] at HF
        go_enter Try.func3, Try.ntmps3
        go_wp2_with (first | (go_at_call 5; refine (haw _).mono ?_; rintro e w1 ⟨rfl, hk1⟩; have b1 := HB.out.keep hk1 (by simp); obtain ⟨x0, x1, x2⟩ := cells3 b1; have H1 := Lib.hid (And.intro (HK.out.trans0 hk1) b1); clear hk1 b1) | (go_at_call 6; refine (HF.out.1 _ H1.out.1).mono ?_; rintro e w2 ⟨rfl, hk2⟩; have b2 := H1.out.2.keep hk2 (by simp); obtain ⟨y0, y1, y2⟩ := cells3 b2; have H2 := Lib.hid (H1.out.1.trans0 hk2); clear hk2 b2) | (go_at_call 7; refine (HF.out.2 _ H2.out).mono ?_; rintro e w3 ⟨rfl, hk3⟩; have H3 := Lib.hid (H2.out.trans0 hk3); clear hk3))
        go_ret
        exact RetBool.mk rfl H3.out
      | true =>
        rw [hq2] at HF
        by_cases hen : E ≤ 10
        · have hen2 := Lib.hid hq2
          have hd2 : csize c ≤ 100 := by simpa using hq2
          go_enter Try.func3, Try.ntmps3
          go_upto_region 6 with (first | (go_at_call 5; refine (haw _).mono ?_; rintro e w1 ⟨rfl, hk1⟩; have b1 := HB.out.keep hk1 (by simp); obtain ⟨x0, x1, x2⟩ := cells3 b1; have H1 := Lib.hid (And.intro (HK.out.trans0 hk1) b1); clear hk1 b1) | (go_at_call 6; refine (HF.out.1 _ H1.out.1).mono ?_; rintro e w2 ⟨rfl, hk2⟩; have b2 := H1.out.2.keep hk2 (by simp); obtain ⟨y0, y1, y2⟩ := cells3 b2; have H2 := Lib.hid (And.intro (H1.out.1.trans0 hk2) b2); clear hk2 b2) | (go_at_call 7; refine (HF.out.2 _ H2.out.1).mono ?_; rintro e w3 ⟨rfl, hk3⟩; have H3 := Lib.hid (And.intro (H2.out.1.trans0 hk3) (H2.out.2.keep hk3 (by simp))); clear hk3) | (go_at_call 8; refine (law20_made (S := S) most (HD.out.1 _ H3.out.1) (fun b hb => Nat.lt_of_lt_of_le (HD.out.2.2.2.1 b hb) H3.out.1.size) (fewD_args hq1)).mono ?_; rintro e w4 ⟨g, bx, F, G, m, rfl, hM⟩; have HM := Lib.hid hM; clear hM))
          have hM := HM.out
          have b4 := H3.out.2.keep hM.k (by simp)
          have kw4 := H3.out.1.trans0 hM.k
          obtain ⟨y0, y1, y2⟩ := cells3 b4
          obtain ⟨lk, ln, lb2, ll, lc, hlk⟩ := look_node hM i
          have hlook : (Instr.lookup 31 (.map (some bx)) (.int .i64 i) true).run Try.prog w4 = .ok (.tuple #[.agg #[.int .i64 lk, .int .i64 ln, .slice lb2 ll lc], .bool (mget m i).isSome]) w4 := by
            rw [← hlk]
            exact run_lookup_ok_i hM.map Try.underlying31 Try.underlying3 (zero_node _) i
          have hS3 : ∀ b, S b → b < w3.heap.size := fun b hb => Nat.lt_of_lt_of_le (HD.out.2.2.2.1 b hb) H3.out.1.size
          have hT3 : ∀ b, T b → b < w3.heap.size := fun b hb => Nat.lt_of_lt_of_le (HD.out.2.2.2.2.1 b hb) H3.out.1.size
          have hU3 : ∀ b, U b → b < w3.heap.size := fun b hb => Nat.lt_of_lt_of_le (HD.out.2.2.2.2.2 b hb) H3.out.1.size
          have hMo := fun o : Obj => hM.keep0 hS3 ((Keeps.refl [] w4).alloc o)
          have h3s := H3.out.2.lt
          have h4s := b4.lt
          have hmake := fun o : Obj => build_Make (c := c) (l := env) (idn := 0) (by omega) (by rw [HE0.out]; omega) (HD.out.2.1 _ (kw4.alloc o)) (fun b hb => ⟨by have := hT3 b hb; have := hM.k.size; simp; omega, fun hh => by have := hT3 b hb; have := hM.lo.2.2 b hh; omega⟩) (by rw [HE0.out]; exact HD.out.2.2.1 _ (kw4.alloc o)) (fun b hb => by have := hU3 b hb; have := hM.k.size; simp; omega) (hMo o).gr (fun x hx => by have := hM.k.size; simp; omega) (by decide) (by omega)
          have HQ := Lib.hid (And.intro hM (And.intro b4 (And.intro kw4 (And.intro hlk (And.intro hS3 (And.intro hMo hmake))))))
          clear hM b4 kw4 hlk hMo hmake HB HK HF hT3 hU3 haw HM
          generalize hu : (mget m i).isSome = used at *
          have HU := Lib.hid hu
          clear hu
          have hmfk := fun nd (h : gget G i = some nd) => makeF_keeps (most := clampMost most) (c := c) (l := env) (id := 0) h
          have HMK := Lib.hid hmfk
          clear hmfk
          rcases used with _ | _
          focus
            go_wp2_with fail
            refine (HQ.out.2.2.2.2.2.2 _).mono ?_
            rintro e w5 ⟨F5, rfl, hg5, hk5, hF5⟩
            have b5 := (HQ.out.2.1.alloc (.cells #[.int .i64 lk, .int .i64 ln, .slice lb2 ll lc] 35)).keep hk5 (fun hh => by have := HQ.out.1.lo.2.2 _ hh; omega)
            have kw5 : Keeps [] w w5 := (HQ.out.2.2.1.alloc (.cells #[.int .i64 lk, .int .i64 ln, .slice lb2 ll lc] 35)).trans hk5 (fun x hx => .inr (by have := HQ.out.1.lo.2.2 _ hx; omega))
            generalize makeF (clampMost most) G c env 0 = R at *
            have H5 := Lib.hid (And.intro hg5 (And.intro b5 kw5))
            clear hg5 hk5 hF5 b5 kw5
            go_wp2_with fail
            refine (node_get H5.out.1 i).mono ?_
            rintro e w6 ⟨v6, rfl, ho6, hk6⟩
            obtain ⟨va6, vc6, rfl, hv6⟩ := ownsRow_zero ho6
            have hmid : Keeps [] w (w6.alloc (.cells #[.int .i64 (nd0 (gget R.2 i)).kind, .int .i64 (nd0 (gget R.2 i)).n, .slice va6 (nd0 (gget R.2 i)).args.length vc6] 35)) ∧ Blk (w6.alloc (.cells #[.int .i64 (nd0 (gget R.2 i)).kind, .int .i64 (nd0 (gget R.2 i)).n, .slice va6 (nd0 (gget R.2 i)).args.length vc6] 35)) w.heap.size #[.int .i64 k, .int .i64 n, .slice base M cap] 25 := ⟨(H5.out.2.2.trans0 hk6).alloc _, (H5.out.2.1.keep hk6 (by simp)).alloc _⟩
            clear ho6 hk6
            generalize (nd0 (gget R.2 i)).kind = nk6 at *
            generalize (nd0 (gget R.2 i)).n = nn6 at *
            generalize (nd0 (gget R.2 i)).args.length = nl6 at *
            generalize (gget R.2 i).isSome = is6 at *
            go_upto_region 11 with fail
            refine wp_world (fun wx => Keeps [] w wx ∧ Blk wx w.heap.size #[.int .i64 k, .int .i64 n, .slice base M cap] 25) hmid ?_
            intro wx hmx
            clear hmid H5
          rotate_left 1
          focus
            obtain ⟨v0, hv0⟩ := Option.isSome_iff_exists.1 HU.out
            obtain ⟨nd, hnd, sv0, rfl, hrow0⟩ := HQ.out.1.same i v0 hv0
            have hnk := HMK.out nd hnd
            have HN0 := Lib.hid (And.intro hv0 hrow0)
            obtain ⟨sb0, sc0, rfl, _⟩ := hrow0.form
            clear hv0 hnd hrow0
            go_wp2_with fail
            refine (HQ.out.2.2.2.2.2.2 _).mono ?_
            rintro e w5 ⟨F5, rfl, hg5, hk5, hF5⟩
            have b5 := (HQ.out.2.1.alloc (.cells #[.int .i64 lk, .int .i64 ln, .slice lb2 ll lc] 35)).keep hk5 (fun hh => by have := HQ.out.1.lo.2.2 _ hh; omega)
            have kw5 : Keeps [] w w5 := (HQ.out.2.2.1.alloc (.cells #[.int .i64 lk, .int .i64 ln, .slice lb2 ll lc] 35)).trans hk5 (fun x hx => .inr (by have := HQ.out.1.lo.2.2 _ hx; omega))
            have m5 := (HQ.out.2.2.2.2.2.1 (.cells #[.int .i64 lk, .int .i64 ln, .slice lb2 ll lc] 35)).map.keep hk5 HQ.out.1.ne
            have r5 := (HN0.out.2.keep (fun b hb => Below.heap_alloc w4 (.cells #[.int .i64 lk, .int .i64 ln, .slice lb2 ll lc] 35) _ (by have := HQ.out.2.2.2.2.1 b hb; have := HQ.out.1.k.size; omega))).keep (hk5.fix (fun b hb => ⟨by have := HQ.out.2.2.2.2.1 b hb; have := HQ.out.1.k.size; simp; omega, fun hh => by have := HQ.out.2.2.2.2.1 b hb; have := HQ.out.1.lo.2.2 b hh; omega⟩))
            have hS5 : ∀ b, S b → b < w5.heap.size := fun b hb => by have := HQ.out.2.2.2.2.1 b hb; have := HQ.out.1.k.size; have := hk5.size; simp at this; omega
            generalize makeF (clampMost most) G c env 0 = R at *
            have H5 := Lib.hid (And.intro hg5 (And.intro b5 (And.intro kw5 (And.intro m5 (And.intro r5 (And.intro hS5 hnk))))))
            clear hg5 hk5 hF5 b5 kw5 m5 r5 hS5 hnk
            go_wp2_with fail
            refine (node_get H5.out.1 i).mono ?_
            rintro e w6 ⟨v6, rfl, ho6, hk6⟩
            rw [H5.out.2.2.2.2.2.2] at ho6 ⊢
            have e0 : nd0 (some nd) = nd := rfl
            rw [e0] at ho6 ⊢
            have hk6o := fun o : Obj => hk6.alloc o
            have hlook2 : ∀ o : Obj, (Instr.lookup 31 (.map (some bx)) (.int .i64 i) false).run Try.prog (w6.alloc o) = .ok (.agg #[.int .i64 nd.kind, .int .i64 nd.n, .slice sb0 nd.args.length sc0]) (w6.alloc o) := fun o => by
              have hmo : MapAt (w6.alloc o) bx m := H5.out.2.2.2.1.keep (hk6o o) List.not_mem_nil
              have := run_lookup_i hmo Try.underlying31 Try.underlying3 (zero_node _) i
              rw [HN0.out.1] at this
              exact this
            obtain ⟨va6, vc6, rfl, hv6⟩ := ownsRow_zero ho6
            have hsame : ∀ o : Obj, Calls Try.prog 11 #[.agg #[.int .i64 nd.kind, .int .i64 nd.n, .slice va6 nd.args.length vc6], .agg #[.int .i64 nd.kind, .int .i64 nd.n, .slice sb0 nd.args.length sc0]] (w6.alloc o) (RetBool (w6.alloc o) true) := fun o => by
              have h1 := RowAt.of_owns (ho6.alloc o)
              have h2 := H5.out.2.2.2.2.1.keep ((hk6o o).fix (fun b hb => ⟨H5.out.2.2.2.2.2.1 b hb, by simp⟩))
              have := law20_same (a := nd) (b := nd) ⟨_, rfl, h1⟩ ⟨_, rfl, h2⟩ (fun b hb => by have := (ho6.lt b hb).2; simp; omega) (fun b hb => by have := H5.out.2.2.2.2.2.1 b hb; have := hk6.size; simp; omega)
              simpa using this
            have hmid := fun o : Obj => (show Keeps [] w (w6.alloc o) ∧ Blk (w6.alloc o) w.heap.size #[.int .i64 k, .int .i64 n, .slice base M cap] 25 from ⟨(H5.out.2.2.1.trans0 hk6).alloc _, (H5.out.2.1.keep hk6 (by simp)).alloc _⟩)
            have HM6 := Lib.hid hmid
            clear ho6 hk6 hmid hk6o
            generalize nd.kind = nk6 at *
            generalize nd.n = nn6 at *
            generalize nd.args.length = nl6 at *
            go_upto_region 11 with (go_at_call 11; refine (hsame _).mono ?_; rintro e w7 ⟨rfl, hk7⟩; have H7 := Lib.hid (And.intro ((HM6.out _).1.trans0 hk7) ((HM6.out _).2.keep hk7 (by simp))); clear hk7)
            refine wp_world (fun wx => Keeps [] w wx ∧ Blk wx w.heap.size #[.int .i64 k, .int .i64 n, .slice base M cap] 25) H7.out ?_
            intro wx hmx
            clear HM6 H5 hlook2 hsame H7
          all_goals
            have hlx := hmx.2.lt
            obtain ⟨z0, z1, z2⟩ := cells3 hmx.2
            have HX := Lib.hid hmx
            have hC := build_Calls (by omega) (HD.out.2.1 _ hmx.1) (fun b hb => Nat.lt_of_lt_of_le (HD.out.2.2.2.2.1 b hb) hmx.1.size)
            have HC := Lib.hid hC
            clear hmx hC
            go_wp2_with fail
            refine HC.out.mono ?_
            rintro e w7 ⟨v7, rfl, ho7, hk7⟩
            obtain ⟨hpw, hmem, hlen⟩ := sortC_spec (callsC c)
            have hcl := callsC_len c
            have hmm2 : ∀ y ∈ allC c, (y.kind = 3 ∨ y.kind = 4) → y.n ∈ sortC (callsC c) := fun y hy hk => (hmem y.n).2 (allC_calls c y hy hk)
            generalize sortC (callsC c) = L at *
            have hL : L.length ≤ csize c := by omega
            obtain ⟨vb7, vc7, rfl, hv7⟩ := ownsRow_zero ho7
            have b7 := HX.out.2.keep hk7 (by simp)
            have k7 := HX.out.1.trans0 hk7
            obtain ⟨p0, p1, p2⟩ := cells3 b7
            have H7 := Lib.hid (And.intro ho7 (And.intro b7 k7))
            have HL := Lib.hid (And.intro hpw hmm2)
            clear ho7 b7 k7 hk7 hpw hmem hlen hcl hmm2 HC z0 z1 z2
            generalize hLn : L.length = LN at *
            have HLN := Lib.hid hLn
            clear hLn
            go_wp2_with fail
            go_loopg [83] LN (fun q s83 wr => ∃ j : Nat, j ≤ LN ∧ q = LN - j ∧ s83 = .int .i64 (j : Nat) ∧ w7 = wr)
            case atStart => exact ⟨0, Nat.zero_le _, rfl, rfl, rfl⟩
            case round =>
              obtain ⟨j, hj, rfl, rfl, rfl⟩ := hrel
              by_cases hlt : j < LN
              · obtain ⟨g7, c7, hv7', hc7a, hc7b, hcell⟩ := ownsRow_cells H7.out.1 (by omega)
                injection hv7' with e1 e2 e3
                subst e1
                clear e2 e3 hc7a hc7b
                have hget : ∀ q, q < LN → (ints L)[q]? = some (.int .i64 (L.getD q 0)) := fun q hq => by
                  simp [ints, List.getD_eq_getElem?_getD, List.getElem?_eq_getElem (show q < L.length by rw [HLN.out]; exact hq)]
                have hcj := hcell j _ (hget j hlt)
                by_cases hj0 : j = 0
                · subst hj0
                  clear hcell hget
                  generalize L.getD 0 0 = x at *
                  go_wp2_with fail
                  go_roundg (LN - (0 + 1))
                  case measure => omega
                  case rel => exact ⟨1, by omega, rfl, by go_num, rfl⟩
                · obtain ⟨q, rfl⟩ : ∃ q, j = q + 1 := ⟨j - 1, by omega⟩
                  have hcq := hcell q _ (hget q (by omega))
                  have hlt2 : L.getD q 0 < L.getD (q + 1) 0 := by
                    have := List.pairwise_iff_getElem.1 HL.out.1 q (q + 1) (by rw [HLN.out]; omega) (by rw [HLN.out]; omega) (by omega)
                    simpa [List.getD_eq_getElem?_getD, List.getElem?_eq_getElem (show q < L.length by rw [HLN.out]; omega), List.getElem?_eq_getElem (show q + 1 < L.length by rw [HLN.out]; omega)] using this
                  clear hcell hget
                  generalize L.getD q 0 = x at *
                  generalize L.getD (q + 1) 0 = y at *
                  go_wp2_with fail
                  go_roundg (LN - (q + 1 + 1))
                  case measure => omega
                  case rel => exact ⟨q + 1 + 1, by omega, rfl, by go_num, rfl⟩
              · obtain rfl : LN = j := by omega
                go_wp2_with fail
                refine (HA.out.1 _ H7.out.2.2).mono ?_
                rintro e w8 ⟨v8, xs8, rfl, ho8, hcs8, hk8⟩
                obtain ⟨vb8, vc8, rfl, hv8⟩ := ownsRow_zero ho8
                have b8 := H7.out.2.1.keep hk8 (by simp)
                have k8 := H7.out.2.2.trans0 hk8
                have o8 := ownsRow_keep H7.out.1 hk8 (fun x hx => by simp)
                have H8 := Lib.hid (And.intro ho8 (And.intro hcs8 (And.intro b8 (And.intro k8 o8))))
                clear ho8 hcs8 b8 k8 o8 hk8 H7
                have hA100 : (allC c).length ≤ 100 := by rw [allC_len]; exact hd2
                generalize hAn : (allC c).length = AN at *
                have HAN := Lib.hid hAn
                clear hAn
                go_wp2_with fail
                go_loopg [103] AN (fun q s103 wr => ∃ j : Nat, j ≤ AN ∧ q = AN - j ∧ s103 = .int .i64 (j : Nat) ∧ Keeps [] w8 wr)
                case atStart => exact ⟨0, Nat.zero_le _, rfl, rfl, Keeps.refl _ _⟩
                case round =>
                  obtain ⟨r, hr, rfl, rfl, hK⟩ := hrel
                  by_cases hlt : r < AN
                  · obtain ⟨g8, c8, hv8', _, _, hcell⟩ := ownsRow_cells H8.out.1 (by omega)
                    injection hv8' with e1 e2 e3
                    subst e1
                    clear e2 e3
                    obtain ⟨y, hy⟩ : ∃ y, (allC c)[r]? = some y := ⟨_, List.getElem?_eq_getElem (by rw [HAN.out]; exact hlt)⟩
                    obtain ⟨yk, yn, ysv, f0, f1, f2, hyc⟩ := CoresAt.at_ _ _ H8.out.2.1 r y hy
                    have c0 := hK.cell (hcell _ _ f0) (by simp)
                    have c1 := hK.cell (hcell _ _ f1) (by simp)
                    have c2 := hK.cell (hcell _ _ f2) (by simp)
                    obtain ⟨ysb, ysc, hv, _⟩ := hyc.form
                    injection hv with hv
                    simp at hv
                    obtain ⟨rfl, rfl, rfl⟩ := hv
                    have hin := HL.out.2 y (List.mem_of_getElem? hy)
                    have hhas : ∀ o : Obj, Calls Try.prog 14 #[.slice vb7 LN vc7, .int .i64 y.n] (wr.alloc o) (ContainsPost (wr.alloc o) (decide (y.n ∈ L))) := fun o => by
                      have h1 := RowAt.of_owns ((ownsRow_keep H8.out.2.2.2.2 hK (fun x hx => by simp)).alloc o)
                      rw [← HLN.out] at h1 ⊢
                      exact law23_has h1 _
                    have HH := Lib.hid hhas
                    have HKr := Lib.hid hK
                    clear hcell f0 f1 f2 hyc hhas hK hy
                    generalize y.kind = k9 at *
                    generalize y.n = n9 at *
                    generalize y.args.length = m9 at *
                    have hcase : k9 = 3 ∨ k9 = 4 ∨ ((k9 == 3) = false ∧ (k9 == 4) = false) := by
                      by_cases h1 : k9 = 3
                      · exact .inl h1
                      · by_cases h2 : k9 = 4
                        · exact .inr (.inl h2)
                        · exact .inr (.inr ⟨by simp [h1], by simp [h2]⟩)
                    rcases hcase with rfl | rfl | ⟨q1, q2⟩
                    · have hd : decide (n9 ∈ L) = true := by simpa using hin
                      rw [hd] at HH
                      clear hin hd
                      go_wp2_with (go_at_call 14; refine (HH.out _).mono ?_; rintro e w9 ⟨rfl, rfl⟩)
                      go_roundg (AN - (r + 1))
                      case measure => omega
                      case rel => exact ⟨r + 1, by omega, rfl, by go_num, HKr.out.alloc _⟩
                    · have hd : decide (n9 ∈ L) = true := by simpa using hin
                      rw [hd] at HH
                      clear hin hd
                      go_wp2_with (go_at_call 14; refine (HH.out _).mono ?_; rintro e w9 ⟨rfl, rfl⟩)
                      go_roundg (AN - (r + 1))
                      case measure => omega
                      case rel => exact ⟨r + 1, by omega, rfl, by go_num, HKr.out.alloc _⟩
                    · clear hin
                      go_wp2_with fail
                      go_roundg (AN - (r + 1))
                      case measure => omega
                      case rel => exact ⟨r + 1, by omega, rfl, by go_num, HKr.out.alloc _⟩
                  · obtain rfl : r = AN := by omega
                    have b9 := H8.out.2.2.1.keep hK (by simp)
                    have k9 := H8.out.2.2.2.1.trans0 hK
                    obtain ⟨z0, z1, z2⟩ := cells3 b9
                    have H9 := Lib.hid (And.intro b9 k9)
                    clear hK b9 k9
                    go_wp2_with fail
                    refine build_make_nil.mono ?_
                    rintro e w9 ⟨rfl, hk9⟩
                    have b10 := H9.out.1.keep hk9 (by simp)
                    have k10 := H9.out.2.trans0 hk9
                    obtain ⟨u0, u1, u2⟩ := cells3 b10
                    have hsz := HA.out.2 _ k10
                    have H10 := Lib.hid (And.intro hsz k10)
                    clear hk9 b10 k10 hsz
                    generalize csize c = cz at *
                    have hni := fun w' => ref_ints (l := []) (r := []) (RowAt.nil (fun _ => False) w' 1) (RowAt.nil (fun _ => False) w' 1)
                    have HNI := Lib.hid hni
                    clear hni
                    go_wp2_with (first | (go_at_call 15; refine H10.out.1.mono ?_; rintro e w11 ⟨rfl, hk11⟩; have H11 := Lib.hid (H10.out.2.trans0 hk11); clear hk11) | (go_at_call 16; refine (HNI.out _).mono ?_; rintro e w12 ⟨rfl, hk12⟩; have H12 := Lib.hid (H11.out.trans0 hk12); clear hk12))
                    go_ret
                    exact RetBool.mk (by simp) H12.out
        · go_enter Try.func3, Try.ntmps3
          go_wp2_with (first | (go_at_call 5; refine (haw _).mono ?_; rintro e w1 ⟨rfl, hk1⟩; have b1 := HB.out.keep hk1 (by simp); obtain ⟨x0, x1, x2⟩ := cells3 b1; have H1 := Lib.hid (And.intro (HK.out.trans0 hk1) b1); clear hk1 b1) | (go_at_call 6; refine (HF.out.1 _ H1.out.1).mono ?_; rintro e w2 ⟨rfl, hk2⟩; have b2 := H1.out.2.keep hk2 (by simp); obtain ⟨y0, y1, y2⟩ := cells3 b2; have H2 := Lib.hid (H1.out.1.trans0 hk2); clear hk2 b2) | (go_at_call 7; refine (HF.out.2 _ H2.out).mono ?_; rintro e w3 ⟨rfl, hk3⟩; have H3 := Lib.hid (H2.out.trans0 hk3); clear hk3))
          go_ret
          exact RetBool.mk rfl H3.out
    · go_enter Try.func3, Try.ntmps3
      go_wp2_with (first | (go_at_call 5; refine (haw _).mono ?_; rintro e w1 ⟨rfl, hk1⟩; have H1 := Lib.hid (HK.out.trans0 hk1); clear hk1) | (go_at_call 6; refine (HF.out.1 _ H1.out).mono ?_; rintro e w2 ⟨rfl, hk2⟩; have H2 := Lib.hid (H1.out.trans0 hk2); clear hk2))
      go_ret
      exact RetBool.mk rfl H2.out

end Go.Proofs.Ytokbjopmfcggdaa
