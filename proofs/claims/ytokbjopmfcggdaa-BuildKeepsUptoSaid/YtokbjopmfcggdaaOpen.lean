/- Arguments that can be read as data, opened: a row of elements; an expression; deeds; numbers; and how large they are. -/
import Derived.Test.YtokbjopmfcggdaaDeeds
import Derived.ChangeArms
import Derived.WideKeyArgs
import Derived.ProofKit
import Derived.OpenShut
namespace Go.Proofs.Ytokbjopmfcggdaa
open Go.RowKit Go.ChangeShapes
set_option linter.unusedVariables false
set_option linter.unusedSimpArgs false
set_option linter.unnecessarySimpa false

theorem Try.cells3 : Try.prog.cellsOf 3 = 1 := by kernel_rfl
theorem Try.cells25 : Try.prog.cellsOf 25 = 3 := by kernel_rfl
theorem Try.cells35 : Try.prog.cellsOf 35 = 3 := by kernel_rfl
theorem Try.cells62 : Try.prog.cellsOf 62 = 5 := by kernel_rfl
theorem Try.cells23 : Try.prog.cellsOf 23 = 1 := by kernel_rfl
theorem Try.cells26 : Try.prog.cellsOf 26 = 1 := by kernel_rfl

theorem len3 {α : Type} {l : List α} (h : l.length = 3) : ∃ a b c, l = [a, b, c] := by
  match l, h with
  | [a, b, c], _ => exact ⟨a, b, c, rfl⟩
theorem len5 {α : Type} {l : List α} (h : l.length = 5) : ∃ a b c d e, l = [a, b, c, d, e] := by
  match l, h with
  | [a, b, c, d, e], _ => exact ⟨a, b, c, d, e, rfl⟩
theorem bulk_pos {H : Type} (d : DataW H) : 1 ≤ Rows.uptoBulk d := by
  cases d with
  | lit l => cases l <;> simp [Rows.uptoBulk]
  | nil => simp [Rows.uptoBulk]
  | ptr d => simp [Rows.uptoBulk]
  | slice elems spare => simp [Rows.uptoBulk]
  | agg parts => simp [Rows.uptoBulk]
  | iface t d => simp [Rows.uptoBulk]
  | map entries => simp [Rows.uptoBulk]
  | held h => simp [Rows.uptoBulk]
theorem bulk_part {H : Type} {d : DataW H} {l : List (DataW H)} (h : d ∈ l) : Rows.uptoBulk d ≤ Rows.uptoBulkAll l := by
  induction l with
  | nil => cases h
  | cons x r ih =>
    simp only [Rows.uptoBulkAll]
    cases List.mem_cons.1 h with
    | inl e => subst e; omega
    | inr e => have := ih e; omega
theorem bulk_len {H : Type} (l : List (DataW H)) : l.length ≤ Rows.uptoBulkAll l := by
  induction l with
  | nil => simp [Rows.uptoBulkAll]
  | cons x r ih => have := bulk_pos x; simp only [Rows.uptoBulkAll, List.length_cons]; omega

section
variable {H : Type} {enc : TypeId × Value → H}

def oldB (W : World) (b : Nat) : Prop := b < W.heap.size

/-- A slice: its cells as a row, and its elements' readings. -/
theorem open_rows {W : World} {fuel size : Nat} {t e : TypeId} {cs : List Value} {x : DataW H × List MemPlace} (ht : Try.prog.underlying t = some (.slice e)) (hc : Try.prog.cellsOf e = size) (hs : 0 < size) (h : DataW.trod enc Try.prog W 0 (fun _ => true) true fuel t cs = some x) :
    ∃ (sv : Value) (len : Nat) (xs : List Value) (ys : List (DataW H × List MemPlace)) (m : Nat), cs = [sv] ∧ m < fuel ∧ RowAt (oldB W) W size sv len xs ∧ ys.length = len ∧ (∀ i y, ys[i]? = some y → DataW.trod enc Try.prog W 0 (fun _ => true) true m e ((xs.drop (i * size)).take size) = some y) ∧ Rows.uptoBulkAll (ys.map (·.1)) + 1 ≤ Rows.uptoBulk x.1 := by
  rcases DataW.trod_slice ht h with ⟨rfl, rfl⟩ | ⟨a, len, cap, elems, rest, n, rfl, rfl, rfl, hb, hl, hm, hlen, hel, _, _⟩
  · refine ⟨.slice none 0 0, 0, [], [], 0, rfl, ?_, RowAt.nil _ _ _, rfl, fun i y hi => by simp at hi, by simp [Rows.uptoBulk, Rows.uptoBulkAll]⟩
    cases fuel with
    | zero => simp [DataW.trod] at h
    | succ n => omega
  · have hbk : Rows.uptoBulkAll (elems.map (·.1)) + 1 ≤ Rows.uptoBulk (DataW.slice (elems.map (·.1)) (rest.map (·.1))) := by simp only [Rows.uptoBulk]; omega
    rcases Nat.eq_zero_or_pos len with h0 | h0
    · subst h0
      have : elems = [] := List.eq_nil_of_length_eq_zero hlen
      subst this
      exact ⟨_, 0, [], [], 0, rfl, by omega, ⟨by simp, some a, cap, rfl, hl, hm, (fun hh => by cases hh), fun hh => by omega⟩, rfl, fun i y hi => by simp at hi, hbk⟩
    · rw [hc] at hel
      -- every cell
      have hcell : ∀ i j, i < len → j < size → ∃ cs' y, elems[i]? = some y ∧ DataW.trod enc Try.prog W 0 (fun _ => true) true n e cs' = some y ∧ cs'.length = size ∧ ∀ j, j < size → W.cell? ((a.add (i * size)).add j) = cs'[j]? ∧ (cs'[j]?).isSome = true := by
        intro i j hi hj
        have h1 := hel i hi
        rw [List.getElem?_eq_getElem (by omega : i < elems.length)] at h1
        obtain ⟨cs', hcs, hy⟩ := Option.bind_eq_some_iff.1 h1
        obtain ⟨_, h3, h4⟩ := World.cells?_some hcs
        exact ⟨cs', _, List.getElem?_eq_getElem (by omega), hy, h3, fun j hj => ⟨h4 j hj, by rw [List.getElem?_eq_getElem (by omega)]; rfl⟩⟩
      obtain ⟨g, off, spot⟩ := a
      obtain ⟨c0, y0, _, _, _, hc0⟩ := hcell 0 0 h0 hs
      obtain ⟨hc1, hc2⟩ := hc0 0 hs
      have e0 : ((⟨g, off, spot⟩ : Addr).add (0 * size)).add 0 = ⟨g, off, spot⟩ := by simp [Addr.add]
      rw [e0] at hc1
      rw [← hc1] at hc2
      obtain ⟨v0, hv0⟩ := Option.isSome_iff_exists.1 hc2
      obtain ⟨cur, tt, fz, hblk, hsp⟩ : ∃ cur tt fz, W.heap[g]? = some (.cells cur tt fz) ∧ spot = none := by
        unfold World.cell? at hv0
        dsimp only at hv0
        split at hv0
        · rename_i c t' f hh
          refine ⟨c, t', f, hh, ?_⟩
          cases spot with
          | none => rfl
          | some s => simp at hv0
        · cases hv0
      subst hsp
      have hadd : ∀ k, (⟨g, off, none⟩ : Addr).add k = ⟨g, off + k, none⟩ := fun k => by unfold Addr.add; split <;> simp_all
      have hadd2 : ∀ k j, ((⟨g, off, none⟩ : Addr).add k).add j = ⟨g, off + (k + j), none⟩ := fun k j => by
        rw [hadd]; unfold Addr.add; split
        · simp_all
        · simp [Nat.add_assoc]
      have hcur : ∀ k, W.cell? ⟨g, off + k, none⟩ = cur[off + k]? := fun k => by simp [World.cell?, hblk]
      have hread : ∀ i, i < len → ∃ cs' y, elems[i]? = some y ∧ DataW.trod enc Try.prog W 0 (fun _ => true) true n e cs' = some y ∧ cs'.length = size ∧ ∀ j, j < size → cur[off + (i * size + j)]? = cs'[j]? ∧ off + (i * size + j) < cur.size := by
        intro i hi
        obtain ⟨cs', y, q1, q2, q3, q4⟩ := hcell i 0 hi hs
        refine ⟨cs', y, q1, q2, q3, fun j hj => ?_⟩
        obtain ⟨r1, r2⟩ := q4 j hj
        rw [hadd2, hcur] at r1
        refine ⟨r1, ?_⟩
        rw [← r1] at r2
        obtain ⟨v, hv⟩ := Option.isSome_iff_exists.1 r2
        exact (Array.getElem?_eq_some_iff.1 hv).1
      have hend : off + len * size ≤ cur.size := by
        obtain ⟨_, _, _, _, _, q⟩ := hread (len - 1) (by omega)
        have := (q (size - 1) (by omega)).2
        obtain ⟨l', rfl⟩ : ∃ l', len = l' + 1 := ⟨len - 1, by omega⟩
        simp only [Nat.add_sub_cancel] at this
        rw [Nat.succ_mul]
        omega
      have hxl : ((cur.toList.drop off).take (len * size)).length = len * size := by simp; omega
      refine ⟨_, len, (cur.toList.drop off).take (len * size), elems, n, rfl, by omega, ⟨hxl, some ⟨g, off, none⟩, cap, rfl, hl, hm, (fun hh => by cases hh), fun _ => ⟨g, off, cur, tt, fz, rfl, (Array.getElem?_eq_some_iff.1 hblk).1, hblk, fun j u hu => ?_⟩⟩, hlen, fun i y hy => ?_, hbk⟩
      · rw [List.getElem?_take] at hu
        split at hu
        · simpa using hu
        · cases hu
      · have hi : i < len := by have := (List.getElem?_eq_some_iff.1 hy).1; omega
        obtain ⟨cs', y', q1, q2, q3, q4⟩ := hread i hi
        rw [q1] at hy
        have hyy := Option.some.inj hy
        subst hyy
        have : (((cur.toList.drop off).take (len * size)).drop (i * size)).take size = cs' := by
          have hbd : i * size + size ≤ len * size := by
            have := Nat.mul_le_mul_right size (show i + 1 ≤ len by omega)
            rw [Nat.succ_mul] at this; exact this
          apply List.ext_getElem?
          intro j
          by_cases hj : j < size
          · rw [List.getElem?_take_of_lt hj, List.getElem?_drop, List.getElem?_take_of_lt (by omega), List.getElem?_drop]
            have := (q4 j hj).1
            simpa [Nat.add_assoc] using this
          · rw [List.getElem?_eq_none (by simp; omega), List.getElem?_eq_none (by omega)]
        rw [this]
        exact q2

/-- Numbers. -/
theorem open_introw {W : World} {fuel : Nat} {cs : List Value} {x : DataW H × List MemPlace} (h : DataW.trod enc Try.prog W 0 (fun _ => true) true fuel 26 cs = some x) :
    ∃ (sv : Value) (l : List Int), cs = [sv] ∧ RowAt (oldB W) W 1 sv l.length (ints l) ∧ l.length + 1 ≤ Rows.uptoBulk x.1 := by
  obtain ⟨sv, len, xs, ys, m, rfl, _, hr, hl, hy, hb⟩ := open_rows Try.underlying26 Try.cells3 (by decide) h
  have hx : xs.length = len := by simpa using hr.1
  have each : ∀ i, i < len → ∃ n : Int, xs[i]? = some (.int .i64 n) := by
    intro i hi
    have h1 := hy i _ (List.getElem?_eq_getElem (by omega))
    obtain ⟨n, h2, _⟩ := DataW.trod_int Try.underlying3 h1
    refine ⟨n, ?_⟩
    have h3 := congrArg (fun l => l[0]?) h2
    simpa [List.getElem?_drop] using h3
  have hints : ∃ l : List Int, xs = ints l := by
    clear hr hl hy hb h
    induction xs generalizing len with
    | nil => exact ⟨[], rfl⟩
    | cons u r ih =>
      obtain ⟨n, hn⟩ := each 0 (by simp at hx; omega)
      obtain ⟨l, hl⟩ := ih (len - 1) (by simp at hx; omega) (fun i hi => by
        obtain ⟨n, hn⟩ := each (i + 1) (by omega)
        exact ⟨n, by simpa using hn⟩)
      simp at hn
      subst hn
      subst hl
      exact ⟨n :: l, rfl⟩
  obtain ⟨l, rfl⟩ := hints
  have : l.length = len := by simpa [ints] using hx
  subst this
  refine ⟨sv, l, rfl, hr, ?_⟩
  have := bulk_len (ys.map (·.1))
  simp at this
  omega

theorem bulk_agg3 {a b c : DataW H} : Rows.uptoBulk (.agg [a, b, c]) = Rows.uptoBulk a + (Rows.uptoBulk b + Rows.uptoBulk c) + 1 := by simp [Rows.uptoBulk, Rows.uptoBulkAll]

theorem trod_struct3 {P : Program} {W : World} {t : TypeId} {f0 f1 f2 : Field} {fuel : Nat} {cs : List Value} {x : DataW H × List MemPlace} (ht : P.underlying t = some (.struct #[f0, f1, f2])) (h : DataW.trod enc P W 0 (fun _ => true) true fuel t cs = some x) :
    ∃ y0 y1 y2 n, fuel = n + 1 ∧ x.1 = .agg [y0.1, y1.1, y2.1] ∧ cs.length = P.cellsOf t ∧ DataW.trod enc P W 0 (fun _ => true) true n f0.type ((cs.drop f0.offset).take (P.cellsOf f0.type)) = some y0 ∧
      DataW.trod enc P W 0 (fun _ => true) true n f1.type ((cs.drop f1.offset).take (P.cellsOf f1.type)) = some y1 ∧ DataW.trod enc P W 0 (fun _ => true) true n f2.type ((cs.drop f2.offset).take (P.cellsOf f2.type)) = some y2 := by
  obtain ⟨xs, n, rfl, rfl, hl, hlen, hf⟩ := DataW.trod_struct ht h
  match xs, hlen with
  | [y0, y1, y2], _ => exact ⟨y0, y1, y2, n, rfl, by simp, hl, by simpa using hf 0 f0 rfl, by simpa using hf 1 f1 rfl, by simpa using hf 2 f2 rfl⟩

theorem cores_of {W : World} : ∀ (ys : List (DataW H × List MemPlace)) (xs : List Value), xs.length = ys.length * 3 →
    (∀ i y, ys[i]? = some y → ∃ c k n sv, (xs.drop (i * 3)).take 3 = [.int .i64 k, .int .i64 n, sv] ∧ CoreAt (oldB W) W c (.agg #[.int .i64 k, .int .i64 n, sv]) ∧ csize c ≤ Rows.uptoBulk y.1) →
    ∃ args : List Core, args.length = ys.length ∧ CoresAt (oldB W) W args xs ∧ csizes args ≤ Rows.uptoBulkAll (ys.map (·.1))
  | [], xs, hx, _ => ⟨[], rfl, by unfold CoresAt; exact List.eq_nil_of_length_eq_zero (by simpa using hx), by simp [csizes]⟩
  | y :: ys, xs, hx, h => by
    obtain ⟨c, k, n, sv, h1, h2, h3⟩ := h 0 y rfl
    have hlen : 3 ≤ xs.length := by simp at hx; omega
    obtain ⟨args, a1, a2, a3⟩ := cores_of ys (xs.drop 3) (by simp at hx ⊢; omega) (fun i z hz => by
      obtain ⟨c, k, n, sv, q1, q2, q3⟩ := h (i + 1) z (by simpa using hz)
      refine ⟨c, k, n, sv, ?_, q2, q3⟩
      rw [List.drop_drop]
      rw [show 3 + i * 3 = (i + 1) * 3 by omega]
      exact q1)
    refine ⟨c :: args, by simp [a1], ?_, by simp only [csizes, List.map_cons, Rows.uptoBulkAll]; omega⟩
    unfold CoresAt
    refine ⟨_, _, _, xs.drop 3, ?_, h2, a2⟩
    have h4 := List.take_append_drop 3 xs
    simp at h1
    rw [h1] at h4
    exact h4.symm

theorem open_core {W : World} : ∀ (fuel : Nat) (cs : List Value) (x : DataW H × List MemPlace), DataW.trod enc Try.prog W 0 (fun _ => true) true fuel 25 cs = some x →
    ∃ c k n sv, cs = [.int .i64 k, .int .i64 n, sv] ∧ CoreAt (oldB W) W c (.agg #[.int .i64 k, .int .i64 n, sv]) ∧ csize c ≤ Rows.uptoBulk x.1 := by
  intro fuel
  induction fuel using Nat.strongRecOn with
  | _ fuel ih =>
    intro cs x h
    obtain ⟨y0, y1, y2, n, rfl, hx, hl, h0, h1, h2⟩ := trod_struct3 Try.underlying25 h
    rw [Try.cells25] at hl
    obtain ⟨a, b, c, rfl⟩ := len3 hl
    dsimp only at h0 h1 h2
    rw [Try.cells3] at h0 h1
    rw [Try.cells23] at h2
    simp at h0 h1 h2
    obtain ⟨k, hk, _⟩ := DataW.trod_int Try.underlying3 h0
    obtain ⟨m, hm, _⟩ := DataW.trod_int Try.underlying3 h1
    simp at hk hm
    subst hk
    subst hm
    obtain ⟨sv, len, xs, ys, q, hsv, hq, hr, hyl, hy, hbk⟩ := open_rows Try.underlying23 Try.cells25 (by decide) h2
    simp at hsv
    subst hsv
    obtain ⟨args, a1, a2, a3⟩ := cores_of (W := W) ys xs (by rw [hr.1, hyl]) (fun i y hi => ih q (by omega) _ _ (hy i y hi))
    refine ⟨.mk k m args, k, m, c, rfl, ?_, ?_⟩
    · unfold CoreAt
      refine ⟨c, xs, rfl, ?_, a2⟩
      rw [a1, hyl]; exact hr
    · rw [hx, bulk_agg3]
      unfold csize
      omega

theorem open_node {W : World} {fuel : Nat} {cs : List Value} {x : DataW H × List MemPlace} (h : DataW.trod enc Try.prog W 0 (fun _ => true) true fuel 35 cs = some x) :
    ∃ (nd : Nd) (sv : Value), cs = [.int .i64 nd.kind, .int .i64 nd.n, sv] ∧ RowAt (oldB W) W 1 sv nd.args.length (ints nd.args) := by
  obtain ⟨y0, y1, y2, n, rfl, hx, hl, h0, h1, h2⟩ := trod_struct3 Try.underlying35 h
  rw [Try.cells35] at hl
  obtain ⟨a, b, c, rfl⟩ := len3 hl
  dsimp only at h0 h1 h2
  rw [Try.cells3] at h0 h1
  rw [Try.cells26] at h2
  simp at h0 h1 h2
  obtain ⟨k, hk, _⟩ := DataW.trod_int Try.underlying3 h0
  obtain ⟨m, hm, _⟩ := DataW.trod_int Try.underlying3 h1
  simp at hk hm
  subst hk
  subst hm
  obtain ⟨sv, l, hsv, hr, _⟩ := open_introw h2
  simp at hsv
  subst hsv
  exact ⟨⟨k, m, l⟩, c, rfl, hr⟩

theorem open_deeds {W : World} {fuel : Nat} {cs : List Value} {x : DataW H × List MemPlace} (h : DataW.trod enc Try.prog W 0 (fun _ => true) true fuel 22 cs = some x) :
    ∃ (sv : Value) (l : List Dd), cs = [sv] ∧ DeedsAt (oldB W) W sv l := by
  obtain ⟨sv, len, xs, ys, m, rfl, _, hr, hl, hy, hb⟩ := open_rows Try.underlying22 Try.cells62 (by decide) h
  have each : ∀ i, i < len → ∃ d, DeedCells (oldB W) W xs i d := by
    intro i hi
    have h1 := hy i _ (List.getElem?_eq_getElem (by omega))
    obtain ⟨y0, y1, y2, n, rfl, hx, hl5, h0, h1', h2⟩ := trod_struct3 Try.underlying62 h1
    rw [Try.cells62] at hl5
    obtain ⟨a, b, c, d, e, hcs⟩ := len5 hl5
    rw [hcs] at h0 h1' h2
    dsimp only at h0 h1' h2
    rw [Try.cells3] at h0 h1'
    rw [Try.cells35] at h2
    simp at h0 h1' h2
    obtain ⟨k, hk, _⟩ := DataW.trod_int Try.underlying3 h0
    obtain ⟨q, hq, _⟩ := DataW.trod_int Try.underlying3 h1'
    simp at hk hq
    subst hk
    subst hq
    obtain ⟨nd, sv', hnd, hrow⟩ := open_node h2
    simp at hnd
    obtain ⟨rfl, rfl, rfl⟩ := hnd
    have hat : ∀ j, j < 5 → xs[i * 5 + j]? = [Value.int .i64 k, Value.int .i64 q, Value.int .i64 nd.kind, Value.int .i64 nd.n, e][j]? := fun j hj => by
      rw [← hcs, List.getElem?_take_of_lt hj, List.getElem?_drop]
    exact ⟨⟨k, q, nd⟩, e, by simpa using hat 0 (by decide), hat 1 (by decide), hat 2 (by decide), hat 3 (by decide), hat 4 (by decide), hrow⟩
  have hall : ∃ l : List Dd, l.length = len ∧ ∀ j d, l[j]? = some d → DeedCells (oldB W) W xs j d := by
    have : ∀ q, q ≤ len → ∃ l : List Dd, l.length = q ∧ ∀ j d, l[j]? = some d → DeedCells (oldB W) W xs j d := by
      intro q
      induction q with
      | zero => intro _; exact ⟨[], rfl, fun j d hj => by simp at hj⟩
      | succ q ih =>
        intro hq
        obtain ⟨l, h1, h2⟩ := ih (by omega)
        obtain ⟨d, hd⟩ := each q (by omega)
        refine ⟨l ++ [d], by simp [h1], fun j d' hj => ?_⟩
        rcases Nat.lt_or_ge j l.length with h | h
        · rw [List.getElem?_append_left h] at hj; exact h2 j d' hj
        · rw [List.getElem?_append_right h] at hj
          have hj0 : j - l.length = 0 := by
            have := (List.getElem?_eq_some_iff.1 hj).1
            simp at this; omega
          rw [hj0] at hj
          simp at hj
          subst hj
          have : j = q := by omega
          subst this
          exact hd
    exact this len (Nat.le_refl _)
  obtain ⟨l, h1, h2⟩ := hall
  exact ⟨sv, l, rfl, xs, by rw [h1]; exact hr, h2⟩

theorem sameAt_of {W W' : World} (hk : Keeps [] W W') {p : MemPlace} (hp : p.block < W.heap.size) : W.sameAt W' p := by
  cases p with
  | cell b off => exact World.cell?_of_block (hk.block b hp (by simp))
  | map b => exact hk.block b hp (by simp)

end
theorem Try.laidOutB : laidOutB Try.prog = true := by kernel_rfl

end Go.Proofs.Ytokbjopmfcggdaa
