/- build.make: what it comes to, in plain Lean; its contract. -/
import Derived.Test.YtokbjopmfcggdaaGreatSeen
namespace Go.Proofs.YtokbjopmfcggdaaGreat
open Go.RowKit
set_option linter.unusedVariables false
set_option linter.unusedSimpArgs false
set_option linter.unnecessarySimpa false

structure St where
  G : List (Option Nd)
  m : List (Int × Int)
  id : Int

def imap (m : List (Int × Int)) : List (Int × Value) := m.map fun p => (p.1, .int .i64 p.2)
def iget (m : List (Int × Int)) (k : Int) : Int := ((m.find? (fun p => p.1 == k)).map (·.2)).getD 0
def iset : List (Int × Int) → Int → Int → List (Int × Int)
  | [], k, v => [(k, v)]
  | p :: r, k, v => if p.1 == k then (k, v) :: r else p :: iset r k v
theorem mget_imap (m : List (Int × Int)) (k : Int) : (mget (imap m) k).getD (.int .i64 0) = .int .i64 (iget m k) := by
  unfold mget iget imap
  rw [List.find?_map]
  cases h : m.find? ((fun p => p.1 == k) ∘ fun p => (p.1, Value.int .i64 p.2)) with
  | none =>
    have : m.find? (fun p => p.1 == k) = none := h
    simp [this]
  | some p =>
    have : m.find? (fun p => p.1 == k) = some p := h
    simp [this]
theorem mset_imap (m : List (Int × Int)) (k v : Int) : mset (imap m) k (.int .i64 v) = imap (iset m k v) := by
  induction m with
  | nil => rfl
  | cons p r ih =>
    unfold imap at *
    simp only [List.map_cons, mset, iset]
    split
    · rfl
    · simp [ih]

def putR (most : Nat) (G : List (Option Nd)) (nd : Nd) : Int × List (Option Nd) := if cnt G < most then ((freeAt G : Nat), gput G nd) else (0, G)

mutual
def mkC (most : Nat) : Core → St → Int × St
  | .mk k n a, s =>
    if k = 1 then (iget s.m n, s)
    else if k = 9 then mkLet most n a s
    else if k = 10 then mkFree most n a s
    else
      let s1 : St := if k = 7 then { s with id := s.id + 1 } else s
      let r := mkA most a s1
      let p := putR most r.2.G ⟨kindK k, if k = 7 then s.id else if k = 6 then 0 else n, r.1⟩
      (p.1, { r.2 with G := p.2 })
def mkLet (most : Nat) (n : Int) : List Core → St → Int × St
  | [x, y], s => mkC most y { (mkC most x s).2 with m := iset (mkC most x s).2.m n (mkC most x s).1 }
  | _, s => (0, s)
def mkFree (most : Nat) (n : Int) : List Core → St → Int × St
  | [x], s => mkC most x { s with G := (putR most s.G ⟨4, 0, []⟩).2, m := iset s.m n (putR most s.G ⟨4, 0, []⟩).1 }
  | _, s => (0, s)
def mkA (most : Nat) : List Core → St → List Int × St
  | [], s => ([], s)
  | c :: r, s => ((mkC most c s).1 :: (mkA most r (mkC most c s).2).1, (mkA most r (mkC most c s).2).2)
end

mutual
def okC : Core → Bool
  | .mk k _ a => partsK k a.length && okA a
def okA : List Core → Bool
  | [] => true
  | c :: r => okC c && okA r
end
mutual
theorem okC_of_seen (n : Int) : ∀ (c : Core) (around : List Int), seenC n c around = true → okC c = true
  | .mk k m a, around, h => by
    unfold seenC at h
    unfold okC
    simp only [Bool.and_eq_true] at h ⊢
    refine ⟨h.1, ?_⟩
    by_cases hk : k = 1
    · have h1 := h.1
      subst hk
      simp [partsK] at h1
      subst h1
      rfl
    · rw [if_neg hk] at h
      exact okA_of_seen n k m 0 a around h.2
theorem okA_of_seen (n k m : Int) : ∀ (i : Nat) (a : List Core) (around : List Int), seenA n k m i a around = true → okA a = true
  | i, [], around, h => rfl
  | i, c :: r, around, h => by
    unfold seenA at h
    unfold okA
    simp only [Bool.and_eq_true] at h ⊢
    exact ⟨okC_of_seen n c _ h.1, okA_of_seen n k m (i + 1) r around h.2⟩
end
theorem okA_at : ∀ (a : List Core) (i : Nat) (x : Core), a[i]? = some x → okA a = true → okC x = true
  | [], i, x, h, _ => by simp at h
  | c :: r, 0, x, h, ho => by simp at h; subst h; unfold okA at ho; simp at ho; exact ho.1
  | c :: r, i + 1, x, h, ho => by unfold okA at ho; simp at ho; exact okA_at r i x (by simpa using h) ho.2
theorem okC_parts {c : Core} (h : okC c = true) : partsK c.kind c.args.length = true ∧ okA c.args = true := by
  cases c; unfold okC at h; simpa [Core.kind, Core.args] using h

/-- The maker, its map and its graph. -/
structure MkAt (w : World) (bm be g : Nat) (F : List Nat) (E : Nat → Prop) (most : Nat) (s : St) : Prop where
  blk : Blk w bm #[.pointer (some ⟨g, 0, none⟩), .map (some be), .int .i64 s.id] 121
  map : MapAt w be (imap s.m)
  gr : GrAt w g F E s.G most
  notF : bm ∉ F ∧ be ∉ F

def MakePost (w : World) (bm be g : Nat) (F : List Nat) (E : Nat → Prop) (most : Nat) (r : Int × St) (e : Ending) (w' : World) : Prop :=
  ∃ F', e = .returned (.int .i64 r.1) ∧ MkAt w' bm be g F' E most r.2 ∧ Keeps (bm :: be :: F) w w' ∧ ∀ x ∈ F', x ∈ F ∨ w.heap.size ≤ x

def MakeSaid (N : Nat) : Prop := ∀ (S : Nat → Prop) (w : World) (c : Core) (v : Value) (bm be g : Nat) (F : List Nat) (E : Nat → Prop) (most : Nat) (s : St), csize c ≤ N → N ≤ 500000 → okC c = true → CoreAt S w c v →
  (∀ b, S b → b < w.heap.size ∧ b ≠ bm ∧ b ≠ be ∧ b ∉ F) → MkAt w bm be g F E most s → (∀ x, E x → x < w.heap.size) → 0 ≤ s.id → s.id + csize c ≤ 4000000000 →
  Calls Tryz.prog 64 #[.pointer (some ⟨bm, 0, none⟩), v] w (MakePost w bm be g F E most (mkC most c s))

theorem MkAt.keep {w w' : World} {bm be g : Nat} {F M : List Nat} {E : Nat → Prop} {most : Nat} {s : St} (h : MkAt w bm be g F E most s) (k : Keeps M w w') (hM : ∀ x ∈ M, x < w.heap.size → x ≠ bm ∧ x ≠ be ∧ x ∉ F ∧ x ≠ g ∧ (E x ∨ ∀ cur fz, w.heap[x]? ≠ some (.cells cur 3 fz))) : MkAt w' bm be g F E most s :=
  ⟨h.blk.keep k (fun hx => (hM _ hx h.blk.lt).1 rfl), h.map.keep k (fun hx => (hM _ hx h.map.lt).2.1 rfl), h.gr.keep k (fun x hx hl => (hM x hx hl).2.2), h.notF⟩
theorem MkAt.keep0 {w w' : World} {bm be g : Nat} {F : List Nat} {E : Nat → Prop} {most : Nat} {s : St} (h : MkAt w bm be g F E most s) (k : Keeps [] w w') : MkAt w' bm be g F E most s := h.keep k (fun x hx => by simp at hx)
theorem MkAt.apart {w : World} {bm be g : Nat} {F : List Nat} {E E' : Nat → Prop} {most : Nat} {s : St} (h : MkAt w bm be g F E most s) (he : ∀ x, E' x → x < w.heap.size → E x) : MkAt w bm be g F E' most s := ⟨h.blk, h.map, h.gr.apart he, h.notF⟩
theorem MkAt.lt {w : World} {bm be g : Nat} {F : List Nat} {E : Nat → Prop} {most : Nat} {s : St} (h : MkAt w bm be g F E most s) : ∀ x ∈ bm :: be :: F, x < w.heap.size := by
  intro x hx
  rcases List.mem_cons.1 hx with rfl | hx
  · exact h.blk.lt
  · rcases List.mem_cons.1 hx with rfl | hx
    · exact h.map.lt
    · exact h.gr.lt.1 x hx

mutual
theorem mkC_id (most : Nat) : ∀ (c : Core) (s : St), s.id ≤ (mkC most c s).2.id ∧ (mkC most c s).2.id ≤ s.id + csize c
  | .mk k n a, s => by
    unfold mkC csize
    split
    · exact ⟨Int.le_refl _, by show s.id ≤ _; omega⟩
    · split
      · have := mkLet_id most n a s; exact ⟨this.1, by omega⟩
      · split
        · have := mkFree_id most n a s; exact ⟨this.1, by omega⟩
        · simp only
          have := mkA_id most a (if k = 7 then { s with id := s.id + 1 } else s)
          split at this
          · rename_i h; rw [if_pos h]; simp only at this ⊢; omega
          · rename_i h; rw [if_neg h]; exact ⟨this.1, by omega⟩
theorem mkLet_id (most : Nat) (n : Int) : ∀ (a : List Core) (s : St), s.id ≤ (mkLet most n a s).2.id ∧ (mkLet most n a s).2.id ≤ s.id + csizes a
  | [], s => by unfold mkLet; simp; omega
  | [x], s => by unfold mkLet; simp; omega
  | [x, y], s => by
    unfold mkLet
    have h1 := mkC_id most x s
    have h2 := mkC_id most y { (mkC most x s).2 with m := iset (mkC most x s).2.m n (mkC most x s).1 }
    simp only [csizes] at *
    omega
  | x :: y :: z :: r, s => by unfold mkLet; simp; omega
theorem mkFree_id (most : Nat) (n : Int) : ∀ (a : List Core) (s : St), s.id ≤ (mkFree most n a s).2.id ∧ (mkFree most n a s).2.id ≤ s.id + csizes a
  | [], s => by unfold mkFree; simp; omega
  | [x], s => by
    unfold mkFree
    have h1 := mkC_id most x { s with G := (putR most s.G ⟨4, 0, []⟩).2, m := iset s.m n (putR most s.G ⟨4, 0, []⟩).1 }
    simp only [csizes] at *
    omega
  | x :: y :: r, s => by unfold mkFree; simp; omega
theorem mkA_id (most : Nat) : ∀ (a : List Core) (s : St), s.id ≤ (mkA most a s).2.id ∧ (mkA most a s).2.id ≤ s.id + csizes a
  | [], s => by unfold mkA; simp; omega
  | c :: r, s => by
    unfold mkA
    have h1 := mkC_id most c s
    have h2 := mkA_id most r (mkC most c s).2
    simp only [csizes] at *
    omega
end

end Go.Proofs.YtokbjopmfcggdaaGreat
