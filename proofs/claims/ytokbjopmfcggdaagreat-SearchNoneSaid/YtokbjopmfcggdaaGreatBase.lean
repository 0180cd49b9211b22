/- Words of this family, over any program: what of a world is kept by a call ('Keeps'), a block known whole ('Blk'), a slice that reads as a row of cells ('RowAt'), and their small laws. -/
import Derived.WalkKit
import Derived.WalkSpells
import Derived.WalkLawsBesides
import Derived.WalkSmall
import Derived.Lib.Hide
namespace Go.Proofs.YtokbjopmfcggdaaGreat
open Go.RowKit
set_option linter.unusedVariables false
set_option linter.unusedSimpArgs false
set_option linter.unnecessarySimpa false

/-- Every block of w that is not listed in M stands in w'; the streams stand. -/
structure Keeps (M : List Nat) (w w' : World) : Prop where
  os : w'.os = w.os
  tape : w'.tape = w.tape
  output : w'.output = w.output
  size : w.heap.size ≤ w'.heap.size
  block : ∀ k, k < w.heap.size → k ∉ M → w'.heap[k]? = w.heap[k]?

theorem Keeps.refl (M : List Nat) (w : World) : Keeps M w w := ⟨rfl, rfl, rfl, Nat.le_refl _, fun _ _ _ => rfl⟩
theorem Keeps.trans {M M' : List Nat} {a b c : World} (h : Keeps M a b) (k : Keeps M' b c) (hM : ∀ x ∈ M', x ∈ M ∨ a.heap.size ≤ x) : Keeps M a c :=
  ⟨k.os.trans h.os, k.tape.trans h.tape, k.output.trans h.output, Nat.le_trans h.size k.size, fun i hi hn =>
    (k.block i (Nat.lt_of_lt_of_le hi h.size) (fun hx => by rcases hM i hx with h1 | h1; exact hn h1; omega)).trans (h.block i hi hn)⟩
theorem Keeps.mono {M M' : List Nat} {a b : World} (h : Keeps M a b) (hM : ∀ x ∈ M, x ∈ M' ∨ a.heap.size ≤ x) : Keeps M' a b :=
  (Keeps.refl M' a).trans h hM
theorem Keeps.of0 {M : List Nat} {a b : World} (h : Keeps [] a b) : Keeps M a b := h.mono (fun _ hx => by simp at hx)
theorem Keeps.trans0 {M : List Nat} {a b c : World} (h : Keeps M a b) (k : Keeps [] b c) : Keeps M a c := h.trans k (fun _ hx => by simp at hx)
theorem Keeps.drewN {M : List Nat} {a b : World} (h : Keeps M a b) (n : Nat) : Keeps M a (b.drewN n) := h.trans0 ⟨rfl, rfl, rfl, Nat.le_refl _, fun _ _ _ => rfl⟩
theorem Keeps.drew {M : List Nat} {a b : World} (h : Keeps M a b) : Keeps M a b.drew := h.trans0 ⟨rfl, rfl, rfl, Nat.le_refl _, fun _ _ _ => rfl⟩
theorem Keeps.alloc {M : List Nat} {a b : World} (h : Keeps M a b) (o : Obj) : Keeps M a (b.alloc o) :=
  h.trans0 ⟨rfl, rfl, rfl, by simp, fun k hk _ => Below.heap_alloc _ _ _ hk⟩
theorem Keeps.setCell {M : List Nat} {a b : World} (h : Keeps M a b) {p : Addr} (hp : p.block ∈ M ∨ a.heap.size ≤ p.block) (v : Value) : Keeps M a (b.setCell p v) :=
  h.trans (M' := [p.block]) ⟨rfl, rfl, rfl, by simp, fun k _ hn => Below.heap_setCell _ _ _ _ (by simpa using hn)⟩ (by simpa using hp)
theorem Keeps.grown {M : List Nat} {a b c : World} {row : Option Nat} (h : Keeps M a b) (hg : b.grownBy c row) (hr : ∀ k, row = some k → k ∈ M ∨ a.heap.size ≤ k) : Keeps M a c :=
  ⟨hg.os.trans h.os, hg.tape.trans h.tape, hg.output.trans h.output, Nat.le_trans h.size hg.size, fun i hi hn =>
    (hg.block i (Nat.lt_of_lt_of_le hi h.size) (fun e => by rcases hr i e.symm with h1 | h1; exact hn h1; omega)).trans (h.block i hi hn)⟩
theorem Keeps.cell {M : List Nat} {w w' : World} (h : Keeps M w w') {b o : Nat} {v : Value} (hc : w.cell? ⟨b, o, none⟩ = some v) (hn : b ∉ M) : w'.cell? ⟨b, o, none⟩ = some v :=
  (World.cell?_of_block (h.block b (World.block_lt_of_cell? w _ hc) hn)).trans hc
theorem Keeps.below {W w' : World} (h : Keeps [] W w') : Below W.heap.size W w' := ⟨h.os, h.tape, h.output, h.size, fun k hk => h.block k hk (by simp)⟩
theorem Keeps.of_below {W w' : World} (h : Below W.heap.size W w') : Keeps [] W w' := ⟨h.os, h.tape, h.output, h.size, fun k hk _ => h.block k hk⟩

/-! ### A block known whole -/
def Blk (w : World) (b : Nat) (cs : Array Value) (t : TypeId) : Prop := w.heap[b]? = some (.cells cs t (0, 0))
theorem Blk.lt {w : World} {b : Nat} {cs : Array Value} {t : TypeId} (h : Blk w b cs t) : b < w.heap.size := (Array.getElem?_eq_some_iff.1 h).1
theorem Blk.cell {w : World} {b : Nat} {cs : Array Value} {t : TypeId} (h : Blk w b cs t) (o : Nat) : w.cell? ⟨b, o, none⟩ = cs[o]? := by
  unfold Blk at h; simp [World.cell?, h]
theorem Blk.frozen {w : World} {b : Nat} {cs : Array Value} {t : TypeId} (h : Blk w b cs t) (o : Nat) : w.frozen? ⟨b, o, none⟩ = false := by
  unfold Blk at h; simp [World.frozen?, h]
theorem Blk.keep {M : List Nat} {w w' : World} {b : Nat} {cs : Array Value} {t : TypeId} (h : Blk w b cs t) (k : Keeps M w w') (hn : b ∉ M) : Blk w' b cs t := (k.block b h.lt hn).trans h
theorem Blk.alloc {w : World} {b : Nat} {cs : Array Value} {t : TypeId} (h : Blk w b cs t) (o : Obj) : Blk (w.alloc o) b cs t := (Below.heap_alloc w o b h.lt).trans h
theorem Blk.grown {w w' : World} {row : Option Nat} {b : Nat} {cs : Array Value} {t : TypeId} (h : Blk w b cs t) (g : w.grownBy w' row) (hn : some b ≠ row) : Blk w' b cs t := (g.block b h.lt hn).trans h
theorem Blk.new (w : World) (cs : Array Value) (t : TypeId) : Blk (w.alloc (.cells cs t)) w.heap.size cs t := heap_alloc_new w _
theorem Blk.setCell {w : World} {b : Nat} {cs : Array Value} {t : TypeId} (h : Blk w b cs t) (o : Nat) (v : Value) : Blk (w.setCell ⟨b, o, none⟩ v) b (cs.setIfInBounds o v) t := by
  unfold Blk at *; simp [World.setCell, Array.getElem?_modify, h]
theorem Blk.setOther {w : World} {b : Nat} {cs : Array Value} {t : TypeId} (h : Blk w b cs t) {p : Addr} (hp : b ≠ p.block) (v : Value) : Blk (w.setCell p v) b cs t := (Below.heap_setCell w p v b hp).trans h
theorem Blk.drewN {w : World} {b : Nat} {cs : Array Value} {t : TypeId} (h : Blk w b cs t) (n : Nat) : Blk (w.drewN n) b cs t := h
theorem Blk.drew {w : World} {b : Nat} {cs : Array Value} {t : TypeId} (h : Blk w b cs t) : Blk w.drew b cs t := h
theorem Blk.ne {w : World} {b b' : Nat} {cs cs' : Array Value} {t t' : TypeId} (h : Blk w b cs t) (h' : Blk w b' cs' t') (ht : t ≠ t') : b ≠ b' := by
  rintro rfl; unfold Blk at *; rw [h] at h'; injection h' with h'; injection h' with _ h2; exact ht h2

theorem ownsRow_drew {w : World} {base : Nat} {e : TypeId} {size : Nat} {v : Value} {n : Nat} {xs : List Value} (h : w.ownsRow base e size v n xs) : w.drew.ownsRow base e size v n xs := h
theorem heap_new_at {w : World} {o : Obj} {n : Nat} (h : n = w.heap.size) : (w.alloc o).heap[n]? = some o := by subst h; exact heap_alloc_new w o
/-- The cells of a block known whole, as an append asks for them. -/
theorem cells_of_blk {w : World} {g : Nat} {l : List Value} {t : TypeId} {fz : Nat × Nat} (h : w.heap[g]? = some (.cells l.toArray t fz)) : ∀ (j : Nat) (u : Value), l[j]? = some u → w.cell? ((⟨g, 0, none⟩ : Addr).add j) = some u := by
  intro j u hu
  have hadd : (⟨g, 0, none⟩ : Addr).add j = ⟨g, j, none⟩ := by unfold Addr.add; split <;> simp_all
  rw [hadd]; simp [World.cell?, h, hu]

theorem cell_some_alloc {w : World} {a : Addr} {v : Value} (h : w.cell? a = some v) {o : Obj} : (w.alloc o).cell? a = some v := (World.cell?_alloc_lt _ _ _ (World.block_lt_of_cell? w a h)).trans h
theorem grown_frozen {w w' : World} {row : Option Nat} {b o : Nat} {v : Value} (h : w.grownBy w' row) (hc : w.cell? ⟨b, o, none⟩ = some v) (hn : some b ≠ row) (o' : Nat) : w'.frozen? ⟨b, o', none⟩ = w.frozen? ⟨b, o', none⟩ :=
  World.frozen?_of_block (h.block b (World.block_lt_of_cell? w _ hc) hn)
/-- The world forgotten but for what is said of it. -/
theorem wp_world {P : Program} {c : Code} {Q : Exit → Act → World → Prop} {a : Act} {w : World} (S : World → Prop) (h : S w) (k : ∀ w', S w' → c.wp P Q a w') : c.wp P Q a w := k w h

/-! ### Sets of blocks that stand -/
def Fix (S : Nat → Prop) (w w' : World) : Prop := ∀ b, S b → w'.heap[b]? = w.heap[b]?
theorem Fix.refl (S : Nat → Prop) (w : World) : Fix S w w := fun _ _ => rfl
theorem Fix.trans {S : Nat → Prop} {a b c : World} (h : Fix S a b) (k : Fix S b c) : Fix S a c := fun x hx => (k x hx).trans (h x hx)
theorem Keeps.fix {M : List Nat} {S : Nat → Prop} {w w' : World} (h : Keeps M w w') (hS : ∀ b, S b → b < w.heap.size ∧ b ∉ M) : Fix S w w' := fun b hb => h.block b (hS b hb).1 (hS b hb).2

/-! ### A slice that reads as a row of cells, through blocks of S -/
def RowAt (S : Nat → Prop) (w : World) (size : Nat) (v : Value) (n : Nat) (xs : List Value) : Prop :=
  xs.length = n * size ∧ ∃ base cap, v = .slice base n cap ∧ n ≤ cap ∧ cap ≤ maxLen ∧ (base = none → cap = 0) ∧
    (0 < n → ∃ g off cur t fz, base = some ⟨g, off, none⟩ ∧ S g ∧ w.heap[g]? = some (.cells cur t fz) ∧ ∀ j u, xs[j]? = some u → cur[off + j]? = some u)

theorem RowAt.keep {S : Nat → Prop} {w w' : World} {size : Nat} {v : Value} {n : Nat} {xs : List Value} (h : RowAt S w size v n xs) (hf : Fix S w w') : RowAt S w' size v n xs := by
  obtain ⟨hl, base, cap, hv, h1, h2, h3, h4⟩ := h
  refine ⟨hl, base, cap, hv, h1, h2, h3, fun hn => ?_⟩
  obtain ⟨g, off, cur, t, fz, hb, hS, hh, hc⟩ := h4 hn
  exact ⟨g, off, cur, t, fz, hb, hS, (hf g hS).trans hh, hc⟩
theorem RowAt.mono {S S' : Nat → Prop} {w : World} {size : Nat} {v : Value} {n : Nat} {xs : List Value} (h : RowAt S w size v n xs) (hs : ∀ b, S b → S' b) : RowAt S' w size v n xs := by
  obtain ⟨hl, base, cap, hv, h1, h2, h3, h4⟩ := h
  refine ⟨hl, base, cap, hv, h1, h2, h3, fun hn => ?_⟩
  obtain ⟨g, off, cur, t, fz, hb, hS, hh, hc⟩ := h4 hn
  exact ⟨g, off, cur, t, fz, hb, hs _ hS, hh, hc⟩
theorem RowAt.nil (S : Nat → Prop) (w : World) (size : Nat) : RowAt S w size (.slice none 0 0) 0 [] :=
  ⟨by simp, none, 0, rfl, Nat.le_refl _, Nat.zero_le _, fun _ => rfl, fun h => absurd h (by omega)⟩
/-- The cells, where there is one. -/
theorem RowAt.cells {S : Nat → Prop} {w : World} {size : Nat} {v : Value} {n : Nat} {xs : List Value} (h : RowAt S w size v n xs) (hn : 0 < n) :
    ∃ g off cap, v = .slice (some ⟨g, off, none⟩) n cap ∧ n ≤ cap ∧ cap ≤ maxLen ∧ S g ∧ g < w.heap.size ∧ ∀ j u, xs[j]? = some u → w.cell? ⟨g, off + j, none⟩ = some u := by
  obtain ⟨hl, base, cap, hv, h1, h2, h3, h4⟩ := h
  obtain ⟨g, off, cur, t, fz, rfl, hS, hh, hc⟩ := h4 hn
  exact ⟨g, off, cap, hv, h1, h2, hS, (Array.getElem?_eq_some_iff.1 hh).1, fun j u hu => by simp [World.cell?, hh, hc j u hu]⟩
theorem RowAt.len {S : Nat → Prop} {w : World} {size : Nat} {v : Value} {n : Nat} {xs : List Value} (h : RowAt S w size v n xs) : xs.length = n * size := h.1
theorem RowAt.form {S : Nat → Prop} {w : World} {size : Nat} {v : Value} {n : Nat} {xs : List Value} (h : RowAt S w size v n xs) : ∃ base cap, v = .slice base n cap ∧ n ≤ cap ∧ cap ≤ maxLen ∧ (base = none → cap = 0) := by
  obtain ⟨_, base, cap, hv, h1, h2, h3, _⟩ := h
  exact ⟨base, cap, hv, h1, h2, h3⟩
/-- What the call owns, reads. -/
theorem RowAt.of_owns {w : World} {base : Nat} {e : TypeId} {size : Nat} {v : Value} {n : Nat} {xs : List Value} (h : w.ownsRow base e size v n xs) : RowAt (fun b => v.ownBlock = some b) w size v n xs := by
  refine ⟨h.1, ?_⟩
  rcases h.2 with ⟨rfl, rfl⟩ | ⟨g, cap, cur, rfl, hb, hg, h1, h2, h3, h4⟩
  · exact ⟨none, 0, rfl, Nat.le_refl _, Nat.zero_le _, fun _ => rfl, fun h => absurd h (by omega)⟩
  · refine ⟨_, cap, rfl, h1, h2, fun h => by simp at h, fun _ => ⟨g, 0, cur, e, (0, 0), rfl, rfl, hg, fun j u hu => ?_⟩⟩
    rw [← h4, List.getElem?_take] at hu
    split at hu
    · simpa using hu
    · cases hu

end Go.Proofs.YtokbjopmfcggdaaGreat
