/- build.Make. -/
import Derived.Test.YtokbjopmfcggdaaGreatMakeN
import Derived.Carry
namespace Go.Proofs.YtokbjopmfcggdaaGreat
open Go.RowKit
set_option linter.unusedVariables false
set_option linter.unusedSimpArgs false
set_option linter.unnecessarySimpa false

def envM : Nat → List Int → List (Int × Int) → List (Int × Int)
  | _, [], m => m
  | k, x :: r, m => envM (k + 1) r (iset m (k : Nat) x)

/-- What build.Make gives, and its graph. -/
def makeF (most : Nat) (G : List (Option Nd)) (c : Core) (l : List Int) (id : Int) : (Int × Int × Int) × List (Option Nd) :=
  if boundC c (l.length : Nat) = true then
    if room G most (need c : Nat) = true then
      (((mkC most c ⟨G, envM 0 l [], id⟩).1, (mkC most c ⟨G, envM 0 l [], id⟩).2.id, 0), (mkC most c ⟨G, envM 0 l [], id⟩).2.G)
    else ((0, id, 5), G)
  else ((0, id, 4), G)
def MakeFPost (w : World) (g : Nat) (F : List Nat) (E : Nat → Prop) (most : Nat) (r : (Int × Int × Int) × List (Option Nd)) (e : Ending) (w' : World) : Prop :=
  ∃ F', e = .returned (.tuple #[.int .i64 r.1.1, .int .i64 r.1.2.1, .int .i64 r.1.2.2]) ∧ GrAt w' g F' E r.2 most ∧ Keeps F w w' ∧ ∀ x ∈ F', x ∈ F ∨ w.heap.size ≤ x

/-- The maker, behind 'm := ..', and in the loop. -/
structure MkrAt (w : World) (g : Nat) (F : List Nat) (E : Nat → Prop) (most : Nat) (s : St) (cs : Array Value) (bm be : Nat) (wx : World) : Prop where
  m : MkAt wx bm be g F E most s
  k : Keeps [] w wx
  e : Blk wx w.heap.size cs 46
  lt : w.heap.size < bm ∧ w.heap.size < be

theorem MkrAt.set {w wx w2 : World} {g bm be : Nat} {F : List Nat} {E : Nat → Prop} {most : Nat} {s : St} {cs : Array Value} {k v : Int} (h : MkrAt w g F E most s cs bm be wx) (hm : MapAt w2 be (mset (imap s.m) k (.int .i64 v))) (hk : Keeps [be] wx w2) : MkrAt w g F E most { s with m := iset s.m k v } cs bm be w2 := by
  rw [mset_imap] at hm
  have e1 := h.m.map.ne h.m.blk
  have e2 := h.m.map.ne h.e
  obtain ⟨b, hg⟩ := h.m.gr.blkG
  refine ⟨⟨h.m.blk.keep hk (by simpa using Ne.symm e1), hm, h.m.gr.keep hk (fun x hx _ => ?_), h.m.notF⟩, h.k.trans hk (fun x hx => ?_), h.e.keep hk (by simpa using Ne.symm e2), h.lt⟩
  · simp at hx
    subst hx
    refine ⟨h.m.notF.2, h.m.map.ne hg, .inr (fun cur fz hc => ?_)⟩
    obtain ⟨es, ck, hb, _⟩ := h.m.map
    rw [hb] at hc; cases hc
  · simp at hx
    subst hx
    exact .inr (Nat.le_of_lt h.lt.2)

set_option maxHeartbeats 2000000 in
set_option maxRecDepth 100000 in
theorem build_Make {S T : Nat → Prop} {w : World} {c : Core} {v va : Value} {l : List Int} {g : Nat} {F : List Nat} {E : Nat → Prop} {most : Nat} {G : List (Option Nd)} {idn : Int} (hc : csize c ≤ 500000) (hl : l.length ≤ 1000000) (h : CoreAt S w c v) (hS : ∀ b, S b → b < w.heap.size ∧ b ∉ F)
    (hr : RowAt T w 1 va l.length (ints l)) (hT : ∀ b, T b → b < w.heap.size) (hg : GrAt w g F E G most) (hE : ∀ x, E x → x < w.heap.size) (h0 : 0 ≤ idn) (h4 : idn + csize c ≤ 4000000000) :
    Calls Tryz.prog 34 #[.pointer (some ⟨g, 0, none⟩), v, va, .int .i64 idn] w (MakeFPost w g F E most (makeF most G c l idn)) := by
  obtain ⟨base, cap, rfl, hc1, hc2⟩ := h.form
  obtain ⟨ab, ac, rfl, hac1, hac2, harow⟩ := row_at hr
  have bE := Blk.new w #[.int .i64 c.kind, .int .i64 c.n, .slice base c.args.length cap] 46
  have kk : (Keeps [] w (w.alloc (.cells #[.int .i64 c.kind, .int .i64 c.n, .slice base c.args.length cap] 46))) := (Keeps.refl _ _).alloc _
  have core := fun w' (k : Keeps [] w w') => CoreAt.keep (w' := w') (k.fix (fun b hb => ⟨(hS b hb).1, by simp⟩)) _ _ h
  have hbound := fun w' (k : Keeps [] w w') => build_bound (l.length : Nat) hc (core w' k) (fun b hb => Nat.lt_of_lt_of_le (hS b hb).1 k.size)
  have hneed := fun w' (k : Keeps [] w w') => build_need 500000 S w' c _ hc (by omega) (core w' k) (fun b hb => Nat.lt_of_lt_of_le (hS b hb).1 k.size)
  have hroom := fun w' (k : Keeps [] w w') => node_room (hg.keep0 k) (need c : Nat)
  have hnl := need_le c
  have HB := Lib.hid (And.intro hbound (And.intro hneed hroom))
  have HC := Lib.hid (And.intro hg (And.intro hr (And.intro core (And.intro hS hT))))
  have HK := Lib.hid kk
  have HE := Lib.hid bE
  have hmk : Hid (boundC c (l.length : Nat) = true → okC c = true) := Lib.hid (fun hb => okC_of_seen _ c [] (by unfold boundC at hb; simp only [Bool.and_eq_true] at hb; exact hb.2))
  clear hbound hneed hroom core h hr hg hS hT
  unfold maxLen at hc2 hac2
  have hcase : (boundC c (l.length : Nat) = false) ∨ (boundC c (l.length : Nat) = true ∧ room G most (need c : Nat) = false) ∨ (boundC c (l.length : Nat) = true ∧ room G most (need c : Nat) = true) := by
    cases boundC c (l.length : Nat) <;> cases room G most (need c : Nat) <;> simp
  rcases hcase with q1 | ⟨q1, q2⟩ | ⟨q1, q2⟩
  · have he : makeF most G c l idn = ((0, idn, 4), G) := by unfold makeF; rw [if_neg (by rw [q1]; decide)]
    rw [q1] at HB
    rw [he]
    clear he hmk harow
    generalize c.kind = k at *
    generalize c.n = m at *
    generalize c.args.length = M at *
    generalize need c = nd at *
    go_enter Tryz.func34, Tryz.ntmps34
    go_wp2_with (first | (go_at_call 61; refine (HB.out.1 _ HK.out).mono ?_; rintro e w1 ⟨rfl, hk1⟩; have H1 := Lib.hid hk1; clear hk1))
    refine bodyPost_ret (v := .tuple #[.int .i64 0, .int .i64 idn, .int .i64 4]) (by simp [results, Tryz.results34, go_sem, *]) rfl ?_
    have kw := HK.out.trans0 H1.out
    exact ⟨F, rfl, HC.out.1.keep0 kw, kw.of0, fun x hx => .inl hx⟩
  · have he : makeF most G c l idn = ((0, idn, 5), G) := by unfold makeF; rw [if_pos q1, if_neg (by rw [q2]; decide)]
    rw [q1, q2] at HB
    rw [he]
    clear he hmk harow
    generalize c.kind = k at *
    generalize c.n = m at *
    generalize c.args.length = M at *
    generalize need c = nd at *
    go_enter Tryz.func34, Tryz.ntmps34
    go_wp2_with (first | (go_at_call 61; refine (HB.out.1 _ HK.out).mono ?_; rintro e w1 ⟨rfl, hk1⟩; have b1 := HE.out.keep hk1 (by simp); have x0 := b1.cell 0; have x1 := b1.cell 1; have x2 := b1.cell 2; have H1 := Lib.hid (HK.out.trans0 hk1); clear hk1 b1) | (go_at_call 63; refine (HB.out.2.1 _ H1.out).mono ?_; rintro e w2 ⟨rfl, hk2⟩; have H2 := Lib.hid (H1.out.trans0 hk2); clear hk2) | (go_at_call 62; refine (HB.out.2.2 _ H2.out).mono ?_; rintro e w3 ⟨rfl, rfl⟩))
    refine bodyPost_ret (v := .tuple #[.int .i64 0, .int .i64 idn, .int .i64 5]) (by simp [results, Tryz.results34, go_sem, *]) rfl ?_
    exact ⟨F, rfl, HC.out.1.keep0 H2.out, H2.out.of0, fun x hx => .inl hx⟩
  · have he : makeF most G c l idn = (((mkC most c ⟨G, envM 0 l [], idn⟩).1, (mkC most c ⟨G, envM 0 l [], idn⟩).2.id, 0), (mkC most c ⟨G, envM 0 l [], idn⟩).2.G) := by unfold makeF; rw [if_pos q1, if_pos q2]
    have hok := hmk.out q1
    rw [q1, q2] at HB
    rw [he]
    have HKC := Lib.hid (And.intro he (And.intro hok (And.intro q1 q2)))
    have HR := Lib.hid harow
    clear he hmk harow hok q1 q2
    generalize c.kind = k at *
    generalize c.n = m at *
    generalize c.args.length = M at *
    generalize hnd : need c = nd at *
    clear hnd
    have hmm := @run_makeMap Tryz.prog
    go_enter Tryz.func34, Tryz.ntmps34
    go_upto_region 7 with (first | (go_at_call 61; refine (HB.out.1 _ HK.out).mono ?_; rintro e w1 ⟨rfl, hk1⟩; have b1 := HE.out.keep hk1 (by simp); have x0 := b1.cell 0; have x1 := b1.cell 1; have x2 := b1.cell 2; have H1 := Lib.hid (HK.out.trans0 hk1); have HE1 := Lib.hid b1; clear hk1 b1) | (go_at_call 63; refine (HB.out.2.1 _ H1.out).mono ?_; rintro e w2 ⟨rfl, hk2⟩; have H2 := Lib.hid (H1.out.trans0 hk2); have HE2 := Lib.hid (HE1.out.keep hk2 (by simp)); clear hk2 x0 x1 x2) | (go_at_call 62; refine (HB.out.2.2 _ H2.out).mono ?_; rintro e w3 ⟨rfl, rfl⟩))
    go_cut [11] (fun s11 wx => ∃ bm be, s11 = .pointer (some ⟨bm, 0, none⟩) ∧ MkrAt w g F E most ⟨G, [], idn⟩ #[.int .i64 k, .int .i64 m, .slice base M cap] bm be wx)
    case first =>
      go_wp2_with fail
      go_meet
      have kw := H2.out
      have hlt := HE2.out.lt
      have hg := HC.out.1
      have hFl := hg.lt.1
      refine ⟨_, w2.heap.size, rfl, ⟨⟨by simpa using Blk.new (w2.alloc (.map #[] 0)) #[.pointer (some ⟨g, 0, none⟩), .map (some w2.heap.size), .int .i64 idn] 121, (MapAt.new w2).keep (M := []) ((Keeps.refl _ _).alloc _) (by simp), hg.keep0 ((kw.alloc _).alloc _), fun hh => ?_, fun hh => ?_⟩, (kw.alloc _).alloc _, (HE2.out.alloc _).alloc _, by omega, by omega⟩⟩
      · have := hFl _ hh; omega
      · have := hFl _ hh; omega
    case rest =>
      obtain ⟨bm, be, rfl, hM⟩ := hcut
      have HM := Lib.hid hM
      clear hM H1 H2 HE1 HE2 HB hmm
      go_wp2_with fail
      go_loopg [40] l.length (fun q s40 wr => ∃ i : Nat, i ≤ l.length ∧ q = l.length - i ∧ s40 = .int .i64 (i : Nat) ∧ ∃ mm, MkrAt w g F E most ⟨G, mm, idn⟩ #[.int .i64 k, .int .i64 m, .slice base M cap] bm be wr ∧ envM i (l.drop i) mm = envM 0 l [])
      case atStart => exact ⟨0, Nat.zero_le _, rfl, rfl, [], HM.out, rfl⟩
      case round =>
        obtain ⟨i, hi, rfl, rfl, mm, hM, hEn⟩ := hrel
        by_cases hlt : i < l.length
        · obtain ⟨gl, off, rfl, hTg, hgl, hcell⟩ := HR.out i hlt
          have hc2 := hM.k.cell hcell (by simp)
          have y1 := hM.m.blk.cell 1
          have hdr : l.drop i = l.getD i 0 :: l.drop (i + 1) := by
            rw [List.getD_eq_getElem?_getD, List.getElem?_eq_getElem hlt]; exact List.drop_eq_getElem_cons hlt
          have hEn2 : envM (i + 1) (l.drop (i + 1)) (iset mm (i : Nat) (l.getD i 0)) = envM 0 l [] := by rw [← hEn, hdr, envM]
          obtain ⟨w2, hrun, hmap2, hk2⟩ := run_mapUpdate_i (P := Tryz.prog) (t := 119) hM.m.map Tryz.underlying119 Tryz.underlying3 (i : Nat) (.int .i64 (l.getD i 0))
          have HY := Lib.hid (And.intro (hM.set hmap2 hk2) hEn2)
          clear hM hEn hEn2 hdr hcell hmap2 hk2
          generalize l.getD i 0 = xi at *
          go_wp2_with fail
          go_roundg (l.length - (i + 1))
          case measure => omega
          case rel => exact ⟨i + 1, by omega, rfl, by go_num, _, HY.out.1, HY.out.2⟩
        · obtain rfl : i = l.length := by omega
          obtain ⟨hg, hr, core, hS, hT⟩ := HC.out
          have hm1 : mm = envM 0 l [] := by rw [← hEn]; simp [envM]
          subst hm1
          obtain ⟨x0, x1, x2⟩ := cells3 hM.e
          have hFl := hg.lt.1
          have hCm := build_make 500000 S wr c _ bm be g F E most _ hc (by omega) HKC.out.2.1 (core _ hM.k) (fun b hb => ⟨Nat.lt_of_lt_of_le (hS b hb).1 hM.k.size, by have := (hS b hb).1; have := hM.lt; omega, by have := (hS b hb).1; have := hM.lt; omega, (hS b hb).2⟩) hM.m (fun x hx => Nat.lt_of_lt_of_le (hE x hx) hM.k.size) h0 h4
          have HX := Lib.hid (And.intro hM hCm)
          clear hM hEn hg hr core hS hT hFl hCm
          go_upto_region 14 with (go_at_call 64; refine HX.out.2.mono ?_; rintro e w2 ⟨F2, rfl, hm2, hk2, hF2⟩; have HY := Lib.hid (And.intro hm2 (And.intro hk2 hF2)); have y2 := hm2.blk.cell 2; clear hm2 hk2 hF2)
          refine wp_region_X (fun w' => w'.cell? ⟨bm, 2, none⟩ = some (.int .i64 (mkC most c ⟨G, envM 0 l [], idn⟩).2.id)) [6, 7] (by kernel_rfl) ?_
          have hS0 : w2.drew.cell? ⟨bm, 2, none⟩ = some (.int .i64 (mkC most c ⟨G, envM 0 l [], idn⟩).2.id) := y2
          refine wpAnyX_take [0, 1, 2, 3, 4, 5] 2 (by kernel_rfl) (fun _ _ d _ _ h => by cases d <;> exact h) (by kernel_rfl) (by simp only [List.map_cons, List.map_nil, List.getElem?_toArray, List.getElem?_cons_zero, List.getElem?_cons_succ]; rfl) hS0 ?_
          repeat (refine SegThen.step (v := ?_) (by rfl) (fun w' hSw => ?_) ?_; rotate_left 1; (focus ((try dsimp only at hSw); go_simp; (try with_reducible rfl))); simp only [Act.put, List.setIfInBounds_toArray, List.set_cons_zero, List.set_cons_succ])
          refine SegThen.nil ?_
          refine wpAnyX_tail [6, 7] _ (by kernel_rfl) (by simp only [List.map_cons, List.map_nil, List.getElem?_toArray, List.getElem?_cons_zero, List.getElem?_cons_succ]; rfl) rfl ?_
          dsimp only [List.filterMap, id]
          go_wp2
          refine bodyPost_ret (v := .tuple #[.int .i64 (mkC most c ⟨G, envM 0 l [], idn⟩).1, .int .i64 (mkC most c ⟨G, envM 0 l [], idn⟩).2.id, .int .i64 0]) (by simp [results, Tryz.results34, go_sem, *]) rfl ?_
          obtain ⟨hM, _⟩ := HX.out
          obtain ⟨hm2, hk2, hF2⟩ := HY.out
          have hlt := hM.lt
          have hsz := hM.k.size
          refine ⟨F2, rfl, hm2.gr.keep0 (Keeps.refl _ _).drew, (hM.k.of0.trans hk2 (fun x hx => ?_)).drew, fun x hx => (hF2 x hx).imp (fun h => h) (fun h => by omega)⟩
          simp only [List.mem_cons] at hx
          rcases hx with rfl | rfl | hx
          · exact .inr (by omega)
          · exact .inr (by omega)
          · exact .inl hx

end Go.Proofs.YtokbjopmfcggdaaGreat
