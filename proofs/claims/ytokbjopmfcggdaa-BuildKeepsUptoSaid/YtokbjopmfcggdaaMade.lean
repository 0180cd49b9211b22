/- law20.Made: a graph, and what it has. -/
import Derived.Test.YtokbjopmfcggdaaAll
import Derived.Test.YtokbjopmfcggdaaMakeF
namespace Go.Proofs.Ytokbjopmfcggdaa
open Go.RowKit
set_option linter.unusedVariables false
set_option linter.unusedSimpArgs false
set_option linter.unnecessarySimpa false

/-! ### Plain: places that are set, freed, put; keys -/
theorem gget_gset_ne {G : List (Option Nd)} {i j : Int} {o : Option Nd} (h : j ≠ i) : gget (gset G i o) j = gget G j := by
  unfold gset
  split
  · rename_i hs
    obtain ⟨h0, _⟩ := gget_some hs
    unfold gget
    by_cases hj : 0 ≤ j
    · rw [if_pos hj, if_pos hj, List.getElem?_set_ne (by omega)]
    · rw [if_neg hj, if_neg hj]
  · rfl
theorem gget_gset_same {G : List (Option Nd)} {i : Int} {o : Option Nd} (h : (gget G i).isSome = true) : gget (gset G i o) i = o := by
  unfold gset
  rw [if_pos h]
  obtain ⟨h0, h1, _⟩ := gget_some h
  unfold gget
  rw [if_pos h0, List.getElem?_set_self h1]
  rfl
theorem freeAt_le (G : List (Option Nd)) : freeAt G ≤ G.length := by unfold freeAt; exact List.findIdx_le_length
theorem gget_gput_new (G : List (Option Nd)) (nd : Nd) : gget (gput G nd) (freeAt G : Nat) = some nd := by
  have hl := freeAt_le G
  unfold gget gput putAt
  rw [if_pos (by omega)]
  simp only [Int.toNat_natCast]
  split
  · rename_i h; rw [List.getElem?_set_self h]; rfl
  · have : freeAt G = G.length := by omega
    rw [this]; simp
theorem gget_gput_old {G : List (Option Nd)} {nd x : Nd} {i : Int} (h : gget G i = some x) : gget (gput G nd) i = some x := by
  obtain ⟨h0, h1, nd', h2, h3⟩ := gget_some (i := i) (G := G) (by rw [h]; rfl)
  have hne : freeAt G ≠ i.toNat := by
    intro he
    have hlt : G.findIdx Option.isNone < G.length := by show freeAt G < G.length; omega
    have := List.findIdx_getElem (w := hlt)
    have h4 : G[G.findIdx Option.isNone]? = some (some nd') := by show G[freeAt G]? = _; rw [he]; exact h2
    rw [List.getElem?_eq_getElem hlt] at h4
    injection h4 with h4
    rw [h4] at this
    cases this
  unfold gget at h ⊢
  rw [if_pos h0] at h ⊢
  unfold gput putAt
  split
  · rw [List.getElem?_set_ne hne]; exact h
  · rw [List.getElem?_append_left h1]; exact h

theorem mset_keys {m : List (Int × Value)} {k : Int} {v : Value} (h : (m.map (·.1)).Nodup) : ((mset m k v).map (·.1)).Nodup ∧ ∀ x, x ∈ (mset m k v).map (·.1) → x = k ∨ x ∈ m.map (·.1) := by
  induction m with
  | nil => simp [mset]
  | cons p r ih =>
    simp only [List.map_cons, List.nodup_cons] at h
    obtain ⟨h1, h2⟩ := ih h.2
    unfold mset
    split
    · rename_i hp
      have : p.1 = k := by simpa using hp
      simp only [List.map_cons, List.nodup_cons]
      exact ⟨⟨by rw [← this]; exact h.1, h.2⟩, fun x hx => by simp only [List.mem_cons] at hx ⊢; rcases hx with hx | hx; exact .inl hx; exact .inr (.inr hx)⟩
    · rename_i hp
      have hpk : p.1 ≠ k := by simpa using hp
      simp only [List.map_cons, List.nodup_cons]
      refine ⟨⟨fun hh => ?_, h1⟩, fun x hx => ?_⟩
      · rcases h2 _ hh with e | e
        · exact hpk e
        · exact h.1 e
      · simp only [List.mem_cons] at hx ⊢
        rcases hx with hx | hx
        · exact .inr (.inl hx)
        · rcases h2 _ hx with e | e
          · exact .inl e
          · exact .inr (.inr e)
theorem mdel_sub : ∀ (m : List (Int × Value)) (k : Int), (mdel m k).Sublist m
  | [], k => by simp [mdel]
  | p :: r, k => by
    unfold mdel
    split
    · exact List.sublist_cons_self _ _
    · exact (mdel_sub r k).cons_cons _
theorem mget_mdel_ne (m : List (Int × Value)) {k j : Int} (h : j ≠ k) : mget (mdel m k) j = mget m j := by
  induction m with
  | nil => rfl
  | cons p r ih =>
    unfold mdel
    split
    · rename_i hp
      have : p.1 = k := by simpa using hp
      unfold mget
      rw [List.find?_cons_of_neg (by simp; omega)]
    · simp only [mget] at ih ⊢
      rw [List.find?_cons, List.find?_cons]
      split
      · rfl
      · exact ih
theorem mget_mem {m : List (Int × Value)} {k : Int} {v : Value} (h : mget m k = some v) : k ∈ m.map (·.1) := by
  unfold mget at h
  obtain ⟨p, hp, rfl⟩ := Option.map_eq_some_iff.1 h
  have h1 := List.find?_some hp
  have h2 := List.mem_of_find?_eq_some hp
  have : p.1 = k := by simpa using h1
  rw [← this]
  exact List.mem_map.2 ⟨p, h2, rfl⟩
theorem mdel_notin {m : List (Int × Value)} (k : Int) (h : (m.map (·.1)).Nodup) : k ∉ (mdel m k).map (·.1) := by
  induction m with
  | nil => simp [mdel]
  | cons p r ih =>
    simp only [List.map_cons, List.nodup_cons] at h
    unfold mdel
    split
    · rename_i hp
      have : p.1 = k := by simpa using hp
      rw [← this]; exact h.1
    · rename_i hp
      have hpk : p.1 ≠ k := by simpa using hp
      simp only [List.map_cons, List.mem_cons, not_or]
      exact ⟨Ne.symm hpk, ih h.2⟩
theorem mget_mdel_same {m : List (Int × Value)} {k : Int} (h : (m.map (·.1)).Nodup) : mget (mdel m k) k = none := by
  cases hm : mget (mdel m k) k with
  | none => rfl
  | some v => exact absurd (mget_mem hm) (mdel_notin k h)

structure MadeIn (S : Nat → Prop) (most : Nat) (w : World) (g bx : Nat) (F : List Nat) (G : List (Option Nd)) (m : List (Int × Value)) (wr : World) : Prop where
  gr : GrAt wr g F (fun x => x < w.heap.size) G most
  map : MapAt wr bx m
  nodup : (m.map (·.1)).Nodup
  same : ∀ i v, mget m i = some v → ∃ nd, gget G i = some nd ∧ NodeV S wr nd v
  ne : bx ∉ F
  lo : w.heap.size ≤ g ∧ w.heap.size ≤ bx ∧ ∀ x ∈ F, w.heap.size ≤ x
  k : Keeps [] w wr

theorem MadeIn.nxt {S : Nat → Prop} {most : Nat} {w wr w1 w2 : World} {g bx : Nat} {F F' : List Nat} {G G' : List (Option Nd)} {m m' : List (Int × Value)} (hS : ∀ b, S b → b < w.heap.size) (h : MadeIn S most w g bx F G m wr) (hg : GrAt w1 g F' (fun x => x < w.heap.size) G' most) (hk : Keeps F wr w1) (hF : ∀ x ∈ F', x ∈ F ∨ wr.heap.size ≤ x)
    (hm : MapAt w2 bx m') (hk2 : Keeps [bx] w1 w2) (hnd : (m'.map (·.1)).Nodup) (hs : ∀ i v, mget m' i = some v → ∃ nd, gget G' i = some nd ∧ NodeV S wr nd v) : MadeIn S most w g bx F' G' m' w2 := by
  have hsz := h.k.size
  have hbl := h.map.lt
  have hm1 := h.map.keep hk h.ne
  have hne' : bx ∉ F' := fun hh => by rcases hF _ hh with h1 | h1; exact h.ne h1; omega
  have hkw : Keeps [] w w1 := h.k.trans hk (fun x hx => .inr (h.lo.2.2 x hx))
  obtain ⟨b, hgb⟩ := hg.blkG
  have hbg : bx ≠ g := hm1.ne hgb
  refine ⟨hg.keep hk2 (fun x hx hl => ?_), hm, hnd, fun i v hv => ?_, hne', ⟨h.lo.1, h.lo.2.1, fun x hx => ?_⟩, hkw.trans hk2 (fun x hx => .inr (by simp at hx; rw [hx]; exact h.lo.2.1))⟩
  · simp at hx
    subst hx
    refine ⟨hne', hbg, .inr (fun cur fz hc => ?_)⟩
    obtain ⟨es, ck, hb, _⟩ := hm1
    rw [hb] at hc; cases hc
  · obtain ⟨nd, h1, h2⟩ := hs i v hv
    refine ⟨nd, h1, (h2.keep (hk.fix (fun b hb => ⟨by have := hS b hb; omega, fun hh => by have := hS b hb; have := h.lo.2.2 b hh; omega⟩))).keep (hk2.fix (fun b hb => ⟨by have := hS b hb; have := hkw.size; omega, fun hh => by simp at hh; have := hS b hb; have := h.lo.2.1; omega⟩))⟩
  · rcases hF x hx with h1 | h1
    · exact h.lo.2.2 x h1
    · omega
theorem MadeIn.keep0 {S : Nat → Prop} {most : Nat} {w wr w1 : World} {g bx : Nat} {F : List Nat} {G : List (Option Nd)} {m : List (Int × Value)} (hS : ∀ b, S b → b < w.heap.size) (h : MadeIn S most w g bx F G m wr) (hk : Keeps [] wr w1) : MadeIn S most w g bx F G m w1 :=
  ⟨h.gr.keep0 hk, h.map.keep hk (by simp), h.nodup, fun i v hv => by obtain ⟨nd, h1, h2⟩ := h.same i v hv; exact ⟨nd, h1, h2.keep (hk.fix (fun b hb => ⟨by have := hS b hb; have := h.k.size; omega, by simp⟩))⟩, h.ne, h.lo, h.k.trans0 hk⟩

theorem cellsD {w : World} {x : Nat} {c0 c1 c2 c3 c4 : Value} {t : TypeId} (h : Blk w x #[c0, c1, c2, c3, c4] t) : w.cell? ⟨x, 0, none⟩ = some c0 ∧ w.cell? ⟨x, 1, none⟩ = some c1 ∧ w.cell? ⟨x, 2, none⟩ = some c2 ∧ w.cell? ⟨x, 3, none⟩ = some c3 ∧ w.cell? ⟨x, 4, none⟩ = some c4 := ⟨h.cell 0, h.cell 1, h.cell 2, h.cell 3, h.cell 4⟩
theorem MadeIn.set_used {S : Nat → Prop} {most : Nat} {w wr w1 w2 : World} {g bx : Nat} {F : List Nat} {G : List (Option Nd)} {m : List (Int × Value)} {i : Int} {nd : Nd} {v : Value} (h : MadeIn S most w g bx F G m wr) (hS : ∀ b, S b → b < w.heap.size) (hg : GrAt w1 g F (fun x => x < w.heap.size) (gset G i (some nd)) most) (hk : Keeps F wr w1) (hu : (mget m i).isSome = true) (hv : NodeV S wr nd v)
    (hm : MapAt w2 bx (mset m i v)) (hk2 : Keeps [bx] w1 w2) : MadeIn S most w g bx F (gset G i (some nd)) (mset m i v) w2 := by
  refine h.nxt hS hg hk (fun x hx => .inl hx) hm hk2 (mset_keys h.nodup).1 (fun j u hj => ?_)
  by_cases hji : j = i
  · subst hji
    rw [mget_mset_same] at hj
    injection hj with hj
    subst hj
    obtain ⟨v0, hv0⟩ := Option.isSome_iff_exists.1 hu
    obtain ⟨nd0, h1, _⟩ := h.same j v0 hv0
    exact ⟨nd, gget_gset_same (by rw [h1]; rfl), hv⟩
  · rw [mget_mset_ne _ _ hji] at hj
    rw [gget_gset_ne hji]
    exact h.same j u hj
theorem MadeIn.set_free {S : Nat → Prop} {most : Nat} {w wr w1 : World} {g bx : Nat} {F : List Nat} {G : List (Option Nd)} {m : List (Int × Value)} {i : Int} {nd : Nd} (h : MadeIn S most w g bx F G m wr) (hS : ∀ b, S b → b < w.heap.size) (hg : GrAt w1 g F (fun x => x < w.heap.size) (gset G i (some nd)) most) (hk : Keeps F wr w1) (hu : (mget m i).isSome = false) : MadeIn S most w g bx F (gset G i (some nd)) m w1 := by
  refine h.nxt hS hg hk (fun x hx => .inl hx) (h.map.keep hk h.ne) (Keeps.refl _ _) h.nodup (fun j u hj => ?_)
  have hji : j ≠ i := by rintro rfl; rw [hj] at hu; cases hu
  rw [gget_gset_ne hji]
  exact h.same j u hj
theorem MadeIn.free {S : Nat → Prop} {most : Nat} {w wr w1 w2 : World} {g bx : Nat} {F : List Nat} {G : List (Option Nd)} {m : List (Int × Value)} {i : Int} (h : MadeIn S most w g bx F G m wr) (hS : ∀ b, S b → b < w.heap.size) (hg : GrAt w1 g F (fun x => x < w.heap.size) (gset G i none) most) (hk : Keeps F wr w1)
    (hm : MapAt w2 bx (mdel m i)) (hk2 : Keeps [bx] w1 w2) : MadeIn S most w g bx F (gset G i none) (mdel m i) w2 := by
  refine h.nxt hS hg hk (fun x hx => .inl hx) hm hk2 (((mdel_sub m i).map _).nodup h.nodup) (fun j u hj => ?_)
  by_cases hji : j = i
  · subst hji
    rw [mget_mdel_same h.nodup] at hj
    cases hj
  · rw [mget_mdel_ne _ hji] at hj
    rw [gget_gset_ne hji]
    exact h.same j u hj
theorem MadeIn.put {S : Nat → Prop} {most : Nat} {w wr w1 w2 : World} {g bx : Nat} {F F' : List Nat} {G : List (Option Nd)} {m : List (Int × Value)} {nd : Nd} {v : Value} (h : MadeIn S most w g bx F G m wr) (hS : ∀ b, S b → b < w.heap.size) (hg : GrAt w1 g F' (fun x => x < w.heap.size) (gput G nd) most) (hk : Keeps F wr w1) (hF : ∀ x ∈ F', x ∈ F ∨ wr.heap.size ≤ x) (hv : NodeV S wr nd v)
    (hm : MapAt w2 bx (mset m (freeAt G : Nat) v)) (hk2 : Keeps [bx] w1 w2) : MadeIn S most w g bx F' (gput G nd) (mset m (freeAt G : Nat) v) w2 := by
  refine h.nxt hS hg hk hF hm hk2 (mset_keys h.nodup).1 (fun j u hj => ?_)
  by_cases hji : j = (freeAt G : Nat)
  · subst hji
    rw [mget_mset_same] at hj
    injection hj with hj
    subst hj
    exact ⟨nd, gget_gput_new G nd, hv⟩
  · rw [mget_mset_ne _ _ hji] at hj
    obtain ⟨nd2, h1, h2⟩ := h.same j u hj
    exact ⟨nd2, gget_gput_old h1, h2⟩

def MadePost (S : Nat → Prop) (w : World) (most : Int) (e : Ending) (w' : World) : Prop :=
  ∃ g bx F G m, e = .returned (.tuple #[.pointer (some ⟨g, 0, none⟩), .map (some bx)]) ∧ MadeIn S (clampMost most) w g bx F G m w'
theorem nodeV_form {S : Nat → Prop} {w : World} {nd : Nd} {v : Value} (h : NodeV S w nd v) : ∃ k n b l c, v = .agg #[.int .i64 k, .int .i64 n, .slice b l c] := by
  obtain ⟨sv, rfl, hr⟩ := h
  obtain ⟨b, c, rfl, _⟩ := hr.form
  exact ⟨_, _, _, _, _, rfl⟩

theorem Try.info35z : (Try.prog.info? 35).map (fun i => i.zero) = some (some (.agg #[.int .i64 0, .int .i64 0, .slice none 0 0])) := by kernel_rfl
theorem zero_node (w : World) : (zeroValue 35).run Try.prog w = .ok (.agg #[.int .i64 0, .int .i64 0, .slice none 0 0]) w := by
  obtain ⟨i, h1, h2⟩ := Option.map_eq_some_iff.1 Try.info35z
  exact zero_of_info h1 h2 w

/-- What a look-up gives: the node's value (or none), and whether it is there. -/
theorem look_node {S : Nat → Prop} {most : Nat} {w wr : World} {g bx : Nat} {F : List Nat} {G : List (Option Nd)} {m : List (Int × Value)} (h : MadeIn S most w g bx F G m wr) (i : Int) :
    ∃ k n b l c, (mget m i).getD (.agg #[.int .i64 0, .int .i64 0, .slice none 0 0]) = .agg #[.int .i64 k, .int .i64 n, .slice b l c] := by
  cases hm : mget m i with
  | none => exact ⟨0, 0, none, 0, 0, rfl⟩
  | some v =>
    obtain ⟨nd, _, h2⟩ := h.same i v hm
    exact nodeV_form h2

set_option maxHeartbeats 4000000 in
set_option maxRecDepth 100000 in
theorem law20_made {S : Nat → Prop} {w : World} {v : Value} {l : List Dd} (most : Int) (h : DeedsAt S w v l) (hS : ∀ b, S b → b < w.heap.size) (hl : ∀ d ∈ l, d.nd.args.length ≤ 1000000) : Calls Try.prog 8 #[.int .i64 most, v] w (MadePost S w most) := by
  obtain ⟨base, cap, rfl, hc1, hc2⟩ := h.form
  have HH := Lib.hid (And.intro h (And.intro hS hl))
  clear h hS hl
  generalize hn : l.length = n at *
  have HN := Lib.hid hn
  clear hn
  unfold maxLen at hc2
  have hmm := @run_makeMap Try.prog
  go_enter Try.func8, Try.ntmps8
  go_wp2_with (go_at_call 23; refine (node_new most _).mono ?_; rintro e w1 ⟨g, F0, rfl, hg1, hg2, hg3, hg4⟩; have H1 := Lib.hid (And.intro hg1 (And.intro hg2 (And.intro hg3 hg4))); clear hg1 hg2 hg3 hg4)
  go_loopg [19] n (fun q s19 wr => ∃ i : Nat, i ≤ n ∧ q = n - i ∧ s19 = .int .i64 (i : Nat) ∧ ∃ F G m, MadeIn S (clampMost most) w g w1.heap.size F G m wr)
  case atStart =>
    obtain ⟨hg1, hg2, hg3, hg4⟩ := H1.out
    have hlt := hg3.lt
    refine ⟨0, Nat.zero_le _, rfl, rfl, F0, [], [], ⟨hg3.keep0 ((Keeps.refl _ _).alloc _), MapAt.new w1, by simp, fun i v hv => by simp [mget] at hv, fun hh => by have := hlt.1 _ hh; omega, ⟨hg1, hg4.size, hg2⟩, hg4.alloc _⟩⟩
  case round =>
    obtain ⟨i, hi, rfl, rfl, F, G, m, hM⟩ := hrel
    by_cases hlt : i < n
    · obtain ⟨h, hS, hl⟩ := HH.out
      obtain ⟨gb, off, d, sv, rfl, hx, hSg, hg, e0, e1, e2, e3, e4, hrow⟩ := h.step (hM.k.fix (fun b hb => ⟨hS b hb, by simp⟩)) (by rw [HN.out]; exact hlt)
      have hda := hl d (List.mem_of_getElem? hx)
      obtain ⟨sb, sc, rfl, hs1, hs2, _⟩ := hrow.form
      obtain ⟨dk, di, dnk, dnn, da⟩ := d
      dsimp only at *
      obtain ⟨lk, ln, lb, ll, lc, hlk⟩ := look_node hM di
      have hlook : ∀ o : Obj, (Instr.lookup 31 (.map (some w1.heap.size)) (.int .i64 di) true).run Try.prog (wr.alloc o) = .ok (.tuple #[.agg #[.int .i64 lk, .int .i64 ln, .slice lb ll lc], .bool (mget m di).isSome]) (wr.alloc o) := fun o => by
        have hmo : MapAt (wr.alloc o) w1.heap.size m := MapAt.keep (M := []) hM.map ((Keeps.refl [] wr).alloc o) List.not_mem_nil
        rw [← hlk]
        exact run_lookup_ok_i hmo Try.underlying31 Try.underlying3 (zero_node _) di
      have hSr : ∀ b, S b → b < wr.heap.size := fun b hb => Nat.lt_of_lt_of_le (hS b hb) hM.k.size
      have HX := Lib.hid (And.intro hM (And.intro hrow (And.intro hS hSr)))
      clear h hS hl hx hM hrow hlk hSr
      generalize hu : (mget m di).isSome = used at *
      have HU := Lib.hid hu
      clear hu
      unfold maxLen at hs2
      have k2 := fun (o1 o2 : Obj) => ((Keeps.refl [] wr).alloc o1).alloc o2
      have HK2 := Lib.hid k2
      clear k2
      have hcase : dk = 1 ∨ dk = 2 ∨ ((dk == 1) = false ∧ (dk == 2) = false) := by
        by_cases h1 : dk = 1
        · exact .inl h1
        · by_cases h2 : dk = 2
          · exact .inr (.inl h2)
          · exact .inr (.inr ⟨by simp [h1], by simp [h2]⟩)
      rcases hcase with rfl | rfl | ⟨q1, q2⟩
      · go_wp2_with fail
        have hM2 := HX.out.1.keep0 HX.out.2.2.1 (HK2.out (.cells #[.int .i64 1, .int .i64 di, .int .i64 dnk, .int .i64 dnn, .slice sb da.length sc] 62) (.cells #[.int .i64 lk, .int .i64 ln, .slice lb ll lc] 35))
        have bD := (Blk.new wr #[.int .i64 1, .int .i64 di, .int .i64 dnk, .int .i64 dnn, .slice sb da.length sc] 62).alloc (.cells #[.int .i64 lk, .int .i64 ln, .slice lb ll lc] 35)
        refine (node_set hM2.gr (fun x hx => by have := HX.out.1.k.size; simp; omega) di (S := S) (HX.out.2.1.keep (fun b hb => (Below.heap_alloc _ _ _ (by have := HX.out.2.2.2 b hb; simp; omega)).trans (Below.heap_alloc _ _ _ (HX.out.2.2.2 b hb)))) (fun b hb => by have := HX.out.2.2.2 b hb; simp; omega) hda).mono ?_
        rintro e w3 ⟨rfl, hg3, hk3⟩
        have hFl := HX.out.1.gr.lt.1
        have bD3 := bD.keep hk3 (fun hh => by have := hFl _ hh; omega)
        obtain ⟨y0, y1, y2, y3, y4⟩ := cellsD bD3
        have hm3 := hM2.map.keep hk3 hM2.ne
        cases used with
        | true =>
          obtain ⟨w4, hrun, hmap4, hk4⟩ := run_mapUpdate_i (P := Try.prog) (t := 31) hm3 Try.underlying31 Try.underlying3 di (.agg #[.int .i64 dnk, .int .i64 dnn, .slice sb da.length sc])
          have HE := Lib.hid (hM2.set_used HX.out.2.2.1 hg3 hk3 HU.out ⟨_, rfl, HX.out.2.1.keep (fun b hb => (Below.heap_alloc _ _ _ (by have := HX.out.2.2.2 b hb; simp; omega)).trans (Below.heap_alloc _ _ _ (HX.out.2.2.2 b hb)))⟩ hmap4 hk4)
          clear hM2 bD hg3 hk3 bD3 hm3 hmap4 hk4 hFl
          go_wp2_with fail
          go_roundg (n - (i + 1))
          case measure => omega
          case rel => exact ⟨i + 1, by omega, rfl, by go_num, _, _, _, HE.out⟩
        | false =>
          have HE := Lib.hid (hM2.set_free HX.out.2.2.1 hg3 hk3 HU.out)
          clear hM2 bD hg3 hk3 bD3 hm3 hFl
          go_wp2_with fail
          go_roundg (n - (i + 1))
          case measure => omega
          case rel => exact ⟨i + 1, by omega, rfl, by go_num, _, _, _, HE.out⟩
      · go_wp2_with fail
        have hM2 := HX.out.1.keep0 HX.out.2.2.1 (HK2.out (.cells #[.int .i64 2, .int .i64 di, .int .i64 dnk, .int .i64 dnn, .slice sb da.length sc] 62) (.cells #[.int .i64 lk, .int .i64 ln, .slice lb ll lc] 35))
        have bD := (Blk.new wr #[.int .i64 2, .int .i64 di, .int .i64 dnk, .int .i64 dnn, .slice sb da.length sc] 62).alloc (.cells #[.int .i64 lk, .int .i64 ln, .slice lb ll lc] 35)
        refine (node_free hM2.gr di).mono ?_
        rintro e w3 ⟨rfl, hg3, hk3⟩
        have hFl := HX.out.1.gr.lt.1
        have bD3 := bD.keep hk3 (fun hh => by have := hFl _ hh; omega)
        obtain ⟨y0, y1, y2, y3, y4⟩ := cellsD bD3
        have hm3 := hM2.map.keep hk3 hM2.ne
        obtain ⟨w4, hrun, hmap4, hk4⟩ := run_delete_i (P := Try.prog) (t := 31) hm3 Try.underlying31 Try.underlying3 di #[31, 3] 0 rfl
        have HF := Lib.hid (hM2.free HX.out.2.2.1 hg3 hk3 hmap4 hk4)
        clear hM2 bD hg3 hk3 bD3 hFl hm3 hmap4 hk4
        go_wp2_with fail
        go_roundg (n - (i + 1))
        case measure => omega
        case rel => exact ⟨i + 1, by omega, rfl, by go_num, _, _, _, HF.out⟩
      · go_wp2_with fail
        have hM2 := HX.out.1.keep0 HX.out.2.2.1 (HK2.out (.cells #[.int .i64 dk, .int .i64 di, .int .i64 dnk, .int .i64 dnn, .slice sb da.length sc] 62) (.cells #[.int .i64 lk, .int .i64 ln, .slice lb ll lc] 35))
        have bD := (Blk.new wr #[.int .i64 dk, .int .i64 di, .int .i64 dnk, .int .i64 dnn, .slice sb da.length sc] 62).alloc (.cells #[.int .i64 lk, .int .i64 ln, .slice lb ll lc] 35)
        refine (node_put hM2.gr (fun x hx => by have := HX.out.1.k.size; simp; omega) (S := S) (HX.out.2.1.keep (fun b hb => (Below.heap_alloc _ _ _ (by have := HX.out.2.2.2 b hb; simp; omega)).trans (Below.heap_alloc _ _ _ (HX.out.2.2.2 b hb)))) (fun b hb => by have := HX.out.2.2.2 b hb; simp; omega) hda).mono ?_
        rintro e w3 (⟨_, rfl, hk3⟩ | ⟨_, F', rfl, hg3, hk3, hF3⟩)
        · have HE := Lib.hid (hM2.keep0 HX.out.2.2.1 hk3)
          clear hM2 bD hk3
          go_wp2_with fail
          go_roundg (n - (i + 1))
          case measure => omega
          case rel => exact ⟨i + 1, by omega, rfl, by go_num, _, _, _, HE.out⟩
        · have hFl := HX.out.1.gr.lt.1
          have bD3 := bD.keep hk3 (fun hh => by have := hFl _ hh; omega)
          obtain ⟨y0, y1, y2, y3, y4⟩ := cellsD bD3
          have hm3 := hM2.map.keep hk3 hM2.ne
          obtain ⟨w4, hrun, hmap4, hk4⟩ := run_mapUpdate_i (P := Try.prog) (t := 31) hm3 Try.underlying31 Try.underlying3 (freeAt G : Nat) (.agg #[.int .i64 dnk, .int .i64 dnn, .slice sb da.length sc])
          have HE := Lib.hid (hM2.put HX.out.2.2.1 hg3 hk3 hF3 ⟨_, rfl, HX.out.2.1.keep (fun b hb => (Below.heap_alloc _ _ _ (by have := HX.out.2.2.2 b hb; simp; omega)).trans (Below.heap_alloc _ _ _ (HX.out.2.2.2 b hb)))⟩ hmap4 hk4)
          clear hM2 bD hg3 hk3 hF3 bD3 hm3 hmap4 hk4 hFl
          go_wp2_with fail
          go_roundg (n - (i + 1))
          case measure => omega
          case rel => exact ⟨i + 1, by omega, rfl, by go_num, _, _, _, HE.out⟩
    · obtain rfl : i = n := by omega
      have HX := Lib.hid hM
      clear hM
      go_wp2
      refine bodyPost_ret (v := .tuple #[.pointer (some ⟨g, 0, none⟩), .map (some w1.heap.size)]) (by simp [results, Try.results8, go_sem, *]) rfl ?_
      exact ⟨g, w1.heap.size, F, G, m, rfl, HX.out⟩

end Go.Proofs.Ytokbjopmfcggdaa
