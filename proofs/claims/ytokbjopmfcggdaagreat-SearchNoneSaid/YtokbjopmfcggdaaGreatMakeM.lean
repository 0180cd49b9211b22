/- build.make at a node: what memory holds, round by round. -/
import Derived.Test.YtokbjopmfcggdaaGreatMakeV
namespace Go.Proofs.YtokbjopmfcggdaaGreat
open Go.RowKit
set_option linter.unusedVariables false
set_option linter.unusedSimpArgs false
set_option linter.unnecessarySimpa false

theorem own_block {w : World} {base : Nat} {e : TypeId} {size n : Nat} {v : Value} {xs : List Value} {x : Nat} (h : w.ownsRow base e size v n xs) (hx : v.ownBlock = some x) : ∃ cur, w.heap[x]? = some (.cells cur e (0, 0)) := by
  rcases h.2 with ⟨rfl, _⟩ | ⟨g, cap, cur, rfl, _, hg, _⟩
  · simp [Value.ownBlock] at hx
  · simp only [Value.ownBlock, Option.some.injEq] at hx
    subst hx
    exact ⟨cur, hg⟩
theorem GrAt.tagF {w : World} {g : Nat} {F : List Nat} {E : Nat → Prop} {G : List (Option Nd)} {most : Nat} (h : GrAt w g F E G most) : ∀ x ∈ F, ∀ cur fz, w.heap[x]? ≠ some (.cells cur 3 fz) := by
  obtain ⟨b, vl, vu, A, hi, rfl⟩ := h
  exact foot_tag hi.ar
theorem GrAt.blkG {w : World} {g : Nat} {F : List Nat} {E : Nat → Prop} {G : List (Option Nd)} {most : Nat} (h : GrAt w g F E G most) : ∃ b, Blk w g #[.pointer (some ⟨b, 0, none⟩)] 115 := by
  obtain ⟨b, vl, vu, A, hi, _⟩ := h
  exact ⟨b, hi.blk⟩

/-- Behind 'n := ..': the node's box and the expression's. -/
structure NewAt (w : World) (cs nd : Array Value) (bn : Nat) (wx : World) : Prop where
  lt : w.heap.size < bn
  k : Keeps [] w wx
  e : Blk wx w.heap.size cs 46
  n : Blk wx bn nd 79
def NewMid (w : World) (cs nd : Array Value) (s7 : Value) (wx : World) : Prop := ∃ bn, s7 = .pointer (some ⟨bn, 0, none⟩) ∧ NewAt w cs nd bn wx

/-- Ahead of the loop. -/
structure Mid3 (w : World) (bm be g : Nat) (F : List Nat) (E : Nat → Prop) (most : Nat) (s1 : St) (cs : Array Value) (kk n' : Int) (bn : Nat) (wx : World) : Prop where
  lt : w.heap.size < bn
  m : MkAt wx bm be g F E most s1
  k : Keeps [bm] w wx
  e : Blk wx w.heap.size cs 46
  n : Blk wx bn #[.int .i64 kk, .int .i64 n', .slice none 0 0] 79

theorem NewAt.mid {w wx : World} {bm be g bn : Nat} {F : List Nat} {E : Nat → Prop} {most : Nat} {s : St} {cs : Array Value} {kk n : Int} (h : NewAt w cs #[.int .i64 kk, .int .i64 n, .slice none 0 0] bn wx) (hm : MkAt w bm be g F E most s) : Mid3 w bm be g F E most s cs kk n bn wx :=
  ⟨h.lt, hm.keep0 h.k, h.k.of0, h.e, h.n⟩
theorem Mid3.setN {w wx : World} {bm be g bn : Nat} {F : List Nat} {E : Nat → Prop} {most : Nat} {s : St} {cs : Array Value} {kk n n' : Int} (h : Mid3 w bm be g F E most s cs kk n bn wx) (hF : ∀ x ∈ F, x < w.heap.size) : Mid3 w bm be g F E most s cs kk n' bn (wx.setCell ⟨bn, 1, none⟩ (.int .i64 n')) := by
  have e1 := h.m.map.ne h.n
  have e2 := h.n.ne h.m.blk (by decide)
  have e3 := h.n.ne h.e (by decide)
  obtain ⟨b, hg⟩ := h.m.gr.blkG
  have e4 := h.n.ne hg (by decide)
  have hlt := h.lt
  have kx : Keeps [bn] wx (wx.setCell ⟨bn, 1, none⟩ (.int .i64 n')) := (Keeps.refl _ _).setCell (.inl (by simp)) _
  refine ⟨h.lt, h.m.keep kx ?_, h.k.setCell (.inr (Nat.le_of_lt h.lt)) _, h.e.keep kx (by simpa using Ne.symm e3), h.n.setCell 1 _⟩
  intro x hx _
  simp at hx
  subst hx
  refine ⟨e2, Ne.symm e1, fun hh => ?_, e4, .inr (fun cur fz hc => ?_)⟩
  · have := hF _ hh; omega
  · have := h.n; unfold Blk at this; rw [this] at hc; injection hc with hc; injection hc with _ h3 _; exact absurd h3 (by decide)
theorem Mid3.setId {w wx : World} {bm be g bn : Nat} {F : List Nat} {E : Nat → Prop} {most : Nat} {s : St} {cs : Array Value} {kk n i : Int} (h : Mid3 w bm be g F E most s cs kk n bn wx) : Mid3 w bm be g F E most { s with id := i } cs kk n bn (wx.setCell ⟨bm, 2, none⟩ (.int .i64 i)) := by
  have e1 := h.m.map.ne h.m.blk
  have e2 := h.n.ne h.m.blk (by decide)
  have e3 := h.e.ne h.m.blk (by decide)
  obtain ⟨b, hg⟩ := h.m.gr.blkG
  have e4 := h.m.blk.ne hg (by decide)
  have kx : Keeps [bm] wx (wx.setCell ⟨bm, 2, none⟩ (.int .i64 i)) := (Keeps.refl _ _).setCell (.inl (by simp)) _
  refine ⟨h.lt, ⟨h.m.blk.setCell 2 _, h.m.map.keep kx (by simpa using e1), h.m.gr.keep kx ?_, h.m.notF⟩, h.k.setCell (.inl (by simp)) _, h.e.keep kx (by simpa using e3), h.n.keep kx (by simpa using e2)⟩
  intro x hx _
  simp at hx
  subst hx
  refine ⟨h.m.notF.1, e4, .inr (fun cur fz hc => ?_)⟩
  have := h.m.blk; unfold Blk at this; rw [this] at hc; injection hc with hc; injection hc with _ h3 _; exact absurd h3 (by decide)

/-- The loop, i rounds done. -/
structure RoundAt (w : World) (bm be g : Nat) (F : List Nat) (E : Nat → Prop) (most : Nat) (cs : Array Value) (kk n' : Int) (bn : Nat) (v : Value) (done : List Int) (F' : List Nat) (s' : St) (wr : World) : Prop where
  lt : w.heap.size < bn
  m : MkAt wr bm be g F' (fun x => E x ∨ v.ownBlock = some x) most s'
  k : Keeps (bm :: be :: F) w wr
  e : Blk wr w.heap.size cs 46
  n : Blk wr bn #[.int .i64 kk, .int .i64 n', v] 79
  own : wr.ownsRow w.heap.size 3 1 v done.length (ints done)
  f : ∀ z ∈ F', z ∈ F ∨ bn < z

theorem Mid3.round {w wx : World} {bm be g bn : Nat} {F : List Nat} {E : Nat → Prop} {most : Nat} {s : St} {cs : Array Value} {kk n : Int} (h : Mid3 w bm be g F E most s cs kk n bn wx) : RoundAt w bm be g F E most cs kk n bn (.slice none 0 0) [] F s wx :=
  ⟨h.lt, h.m.apart (fun x hx _ => by simpa [Value.ownBlock] using hx), h.k.of_sub (fun x hx => by simp at hx; simp [hx]), h.e, h.n, World.ownsRow_nil _ _ _ _, fun z hz => .inl hz⟩

/-- One round: x's node is made (w2), put into a row of one (w3), appended (w4), the box written. -/
theorem RoundAt.next {w wr w2 w3 w4 : World} {bm be g bn g' cap' : Nat} {F F' F2 : List Nat} {E : Nat → Prop} {most : Nat} {s' s2 : St} {cs : Array Value} {kk n r : Int} {v : Value} {done : List Int} (hE : ∀ x, E x → x < w.heap.size) (hFw : ∀ x ∈ F, x < w.heap.size)
    (h : RoundAt w bm be g F E most cs kk n bn v done F' s' wr)
    (hm2 : MkAt w2 bm be g F2 (fun x => E x ∨ v.ownBlock = some x) most s2) (k2 : Keeps (bm :: be :: F') wr w2) (hF2 : ∀ z ∈ F2, z ∈ F' ∨ wr.heap.size < z)
    (k3 : Keeps [] w2 w3) (ho : w4.ownsRow w.heap.size 3 1 (.slice (some ⟨g', 0, none⟩) (done.length + 1) cap') (done.length + 1) (ints done ++ [.int .i64 r])) (hgr : w3.grownBy w4 v.ownBlock) (hat : v.ownBlock = some g' ∨ g' = w3.heap.size) :
    RoundAt w bm be g F E most cs kk n bn (.slice (some ⟨g', 0, none⟩) (done.length + 1) cap') (done ++ [r]) F2 s2 (w4.setCell ⟨bn, 2, none⟩ (.slice (some ⟨g', 0, none⟩) (done.length + 1) cap')) := by
  have hrl := h.m.lt
  have hbn := h.n.lt
  have s2z := k2.size
  have hlt := h.lt
  have hkz := h.k.size
  -- the row and the boxes at w2
  have vnF : ∀ x, v.ownBlock = some x → x ∉ bm :: be :: F' := by
    intro x hx hm
    obtain ⟨cur, hc⟩ := own_block h.own hx
    simp only [List.mem_cons] at hm
    rcases hm with rfl | rfl | hm
    · have := h.m.blk; unfold Blk at this; rw [this] at hc; injection hc with hc; injection hc with _ h3 _; exact absurd h3 (by decide)
    · obtain ⟨es, ck, hb, _⟩ := h.m.map
      rw [hb] at hc; cases hc
    · exact h.m.gr.tagF x hm _ _ hc
  have own2 : w2.ownsRow w.heap.size 3 1 v done.length (ints done) := ownsRow_keep h.own k2 (fun x hx => vnF x (by simpa using hx))
  have nbn : bn ∉ bm :: be :: F' := by
    simp only [List.mem_cons, not_or]
    refine ⟨h.n.ne h.m.blk (by decide), Ne.symm (h.m.map.ne h.n), fun hh => ?_⟩
    rcases h.f _ hh with h1 | h1
    · have := hFw _ h1; omega
    · omega
  have neb : w.heap.size ∉ bm :: be :: F' := by
    simp only [List.mem_cons, not_or]
    refine ⟨h.e.ne h.m.blk (by decide), Ne.symm (h.m.map.ne h.e), fun hh => ?_⟩
    rcases h.f _ hh with h1 | h1
    · have := hFw _ h1; omega
    · omega
  have n2 := h.n.keep k2 nbn
  have e2 := h.e.keep k2 neb
  have m3 := hm2.keep0 k3
  have own3 := ownsRow_keep own2 k3 (by simp)
  have n3 := n2.keep k3 (by simp)
  have e3 := e2.keep k3 (by simp)
  have s3z := k3.size
  -- append
  have m3' : MkAt w3 bm be g F2 (fun x => E x ∨ v.ownBlock = some x ∨ x = g') most s2 := m3.apart (fun x hx hl => by
    rcases hx with h1 | h1 | rfl
    · exact .inl h1
    · exact .inr h1
    · rcases hat with h2 | h2
      · exact .inr h2
      · omega)
  have k4 : Keeps v.ownBlock.toList w3 w4 := (Keeps.refl _ _).grown hgr (fun k hk => .inl (by simp [hk]))
  have m4 := m3'.keep k4 (fun x hx hl => by
    have hx' : v.ownBlock = some x := by simpa using hx
    obtain ⟨cur, hc⟩ := own_block own3 hx'
    obtain ⟨b, hg⟩ := m3.gr.blkG
    refine ⟨?_, ?_, fun hh => m3.gr.tagF x hh _ _ hc, ?_, .inl (.inr (.inl hx'))⟩
    · rintro rfl
      have := m3.blk; unfold Blk at this; rw [this] at hc; injection hc with hc; injection hc with _ h3 _; exact absurd h3 (by decide)
    · rintro rfl
      obtain ⟨es, ck, hb, _⟩ := m3.map
      rw [hb] at hc; cases hc
    · rintro rfl
      unfold Blk at hg; rw [hg] at hc; injection hc with hc; injection hc with _ h3 _; exact absurd h3 (by decide))
  have n4 := n3.keep k4 (fun hh => own_ne n3 (ownsRow_le own3 (Nat.zero_le _)) (by decide) (by simpa using hh))
  have e4 := e3.keep k4 (fun hh => own_ne e3 (ownsRow_le own3 (Nat.zero_le _)) (by decide) (by simpa using hh))
  have s4z := k4.size
  have ng' : (Value.slice (some ⟨g', 0, none⟩) (done.length + 1) cap').ownBlock ≠ some bn := own_ne n4 (ownsRow_le ho (Nat.zero_le _)) (by decide)
  -- the box is written
  have k5 : Keeps [bn] w4 (w4.setCell ⟨bn, 2, none⟩ (.slice (some ⟨g', 0, none⟩) (done.length + 1) cap')) := (Keeps.refl _ _).setCell (.inl (by simp)) _
  have bnF2 : bn ∉ F2 := fun hh => by
    rcases hF2 _ hh with h1 | h1
    · exact nbn (by simp [h1])
    · omega
  have m5 := m4.keep k5 (fun x hx hl => by
    simp at hx
    subst hx
    obtain ⟨b, hg⟩ := m4.gr.blkG
    refine ⟨n4.ne m4.blk (by decide), Ne.symm (m4.map.ne n4), bnF2, n4.ne hg (by decide), .inr (fun cur fz hc => ?_)⟩
    have := n4; unfold Blk at this; rw [this] at hc; injection hc with hc; injection hc with _ h3 _; exact absurd h3 (by decide))
  refine ⟨h.lt, m5.apart (fun x hx _ => ?_), ?_, e4.keep k5 (by simp; omega), n4.setCell 2 _, ?_, ?_⟩
  · rcases hx with h1 | h1
    · exact .inl h1
    · simp [Value.ownBlock] at h1; exact .inr (.inr h1.symm)
  · have k23 : Keeps (bm :: be :: F) w w3 := (h.k.trans k2 (fun x hx => by
      simp only [List.mem_cons] at hx ⊢
      rcases hx with h1 | h1 | h1
      · exact .inl (.inl h1)
      · exact .inl (.inr (.inl h1))
      · rcases h.f x h1 with h2 | h2
        · exact .inl (.inr (.inr h2))
        · exact .inr (by omega))).trans0 k3
    exact (k23.trans k4 (fun x hx => .inr ((h.own.lt x (by simpa using hx)).1))).trans k5 (fun x hx => by simp at hx; exact .inr (by omega))
  · have := ownsRow_setOther (p := ⟨bn, 2, none⟩) ho ng' (.slice (some ⟨g', 0, none⟩) (done.length + 1) cap')
    simpa [ints] using this
  · intro z hz
    rcases hF2 z hz with h1 | h1
    · exact h.f z h1
    · exact .inr (by omega)

theorem RoundAt.bnF {w wr : World} {bm be g bn : Nat} {F F' : List Nat} {E : Nat → Prop} {most : Nat} {s' : St} {cs : Array Value} {kk n : Int} {v : Value} {done : List Int} (hFw : ∀ x ∈ F, x < w.heap.size)
    (h : RoundAt w bm be g F E most cs kk n bn v done F' s' wr) : bn ∉ bm :: be :: F' := by
  simp only [List.mem_cons, not_or]
  refine ⟨h.n.ne h.m.blk (by decide), Ne.symm (h.m.map.ne h.n), fun hh => ?_⟩
  rcases h.f _ hh with h1 | h1
  · have := hFw _ h1; have := h.lt; omega
  · omega
theorem RoundAt.ownF {w wr : World} {bm be g bn : Nat} {F F' : List Nat} {E : Nat → Prop} {most : Nat} {s' : St} {cs : Array Value} {kk n : Int} {v : Value} {done : List Int}
    (h : RoundAt w bm be g F E most cs kk n bn v done F' s' wr) : ∀ x, v.ownBlock = some x → x ∉ bm :: be :: F' := by
  intro x hx hm
  obtain ⟨cur, hc⟩ := own_block h.own hx
  simp only [List.mem_cons] at hm
  rcases hm with rfl | rfl | hm
  · have := h.m.blk; unfold Blk at this; rw [this] at hc; injection hc with hc; injection hc with _ h3 _; exact absurd h3 (by decide)
  · obtain ⟨es, ck, hb, _⟩ := h.m.map
    rw [hb] at hc; cases hc
  · exact h.m.gr.tagF x hm _ _ hc

/-- Behind the loop: the node is put. -/
theorem RoundAt.fin {w wr w5 : World} {bm be g bn : Nat} {F F' F5 : List Nat} {E : Nat → Prop} {most : Nat} {s' : St} {cs : Array Value} {kk n : Int} {v : Value} {done : List Int} {G5 : List (Option Nd)}
    (h : RoundAt w bm be g F E most cs kk n bn v done F' s' wr) (hw : w.heap.size ≤ wr.heap.size) (hlt : ∀ x ∈ bm :: be :: F, x < w.heap.size) (hg : GrAt w5 g F5 (fun x => E x ∨ v.ownBlock = some x) G5 most) (hk : Keeps F' wr w5) (hF : ∀ x ∈ F5, x ∈ F' ∨ wr.heap.size ≤ x) :
    MkAt w5 bm be g F5 E most { s' with G := G5 } ∧ Keeps (bm :: be :: F) w w5 ∧ ∀ x ∈ F5, x ∈ F ∨ w.heap.size ≤ x := by
  have hl := h.lt
  have hbm := hlt bm (by simp)
  have hbe := hlt be (by simp)
  have hF5 : ∀ x ∈ F5, x ∈ F' ∨ w.heap.size ≤ x := fun x hx => (hF x hx).imp id (fun h => by omega)
  refine ⟨⟨h.m.blk.keep hk h.m.notF.1, h.m.map.keep hk h.m.notF.2, hg.apart (fun x hx _ => .inl hx), fun hh => ?_, fun hh => ?_⟩, h.k.trans hk (fun x hx => ?_), fun x hx => ?_⟩
  · rcases hF5 _ hh with h1 | h1
    · exact h.m.notF.1 h1
    · omega
  · rcases hF5 _ hh with h1 | h1
    · exact h.m.notF.2 h1
    · omega
  · rcases h.f x hx with h1 | h1
    · exact .inl (by simp [h1])
    · exact .inr (by omega)
  · rcases hF5 x hx with h1 | h1
    · rcases h.f x h1 with h2 | h2
      · exact .inl h2
      · exact .inr (by omega)
    · exact .inr h1

theorem mkA_drop (most : Nat) {a : List Core} {i : Nat} {x : Core} {s : St} {done : List Int} {R : List Int × St} (hx : a[i]? = some x) (h : (done ++ (mkA most (a.drop i) s).1, (mkA most (a.drop i) s).2) = R) :
    (done ++ [(mkC most x s).1] ++ (mkA most (a.drop (i + 1)) (mkC most x s).2).1, (mkA most (a.drop (i + 1)) (mkC most x s).2).2) = R := by
  rw [← h, drop_cons hx, mkA]
  simp

end Go.Proofs.YtokbjopmfcggdaaGreat
