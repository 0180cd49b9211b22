/- Maps with int keys, as lists of pairs: look-up, store, delete; for whatever elements. -/
import Derived.Test.YtokbjopmfcggdaaGreatBase
namespace Go.Proofs.YtokbjopmfcggdaaGreat
open Go.RowKit
set_option linter.unusedVariables false
set_option linter.unusedSimpArgs false
set_option linter.unnecessarySimpa false

def MapAt (w : World) (b : Nat) (m : List (Int × Value)) : Prop :=
  ∃ es clock, w.heap[b]? = some (.map es clock) ∧ es.toList.map (fun e => (e.key, e.val)) = m.map (fun p => (Value.int .i64 p.1, p.2))

def mget (m : List (Int × Value)) (k : Int) : Option Value := (m.find? (fun p => p.1 == k)).map (·.2)
def mset : List (Int × Value) → Int → Value → List (Int × Value)
  | [], k, v => [(k, v)]
  | p :: r, k, v => if p.1 == k then (k, v) :: r else p :: mset r k v
def mdel : List (Int × Value) → Int → List (Int × Value)
  | [], _ => []
  | p :: r, k => if p.1 == k then r else p :: mdel r k

theorem MapAt.lt {w : World} {b : Nat} {m : List (Int × Value)} (h : MapAt w b m) : b < w.heap.size := by
  obtain ⟨es, c, hb, _⟩ := h
  exact (Array.getElem?_eq_some_iff.1 hb).1
theorem MapAt.keep {M : List Nat} {w w' : World} {b : Nat} {m : List (Int × Value)} (h : MapAt w b m) (k : Keeps M w w') (hb : b ∉ M) : MapAt w' b m := by
  have hl := h.lt
  obtain ⟨es, c, h1, h2⟩ := h
  exact ⟨es, c, (k.block b hl hb).trans h1, h2⟩
theorem MapAt.new (w : World) : MapAt (w.alloc (.map #[] 0)) w.heap.size [] := ⟨#[], 0, heap_alloc_new w _, rfl⟩
theorem MapAt.drew {w : World} {b : Nat} {m : List (Int × Value)} (h : MapAt w b m) : MapAt w.drew b m := h
theorem MapAt.ne {w : World} {b b' : Nat} {m : List (Int × Value)} {cs : Array Value} {t : TypeId} (h : MapAt w b m) (h' : Blk w b' cs t) : b ≠ b' := by
  rintro rfl
  obtain ⟨es, c, h1, _⟩ := h
  unfold Blk at h'
  rw [h1] at h'; cases h'

theorem findNow_ints (k : Int) : ∀ (es : List MapEntry) (m : List (Int × Value)) (i : Nat) (_ : es.map (fun e => (e.key, e.val)) = m.map (fun p => (Value.int .i64 p.1, p.2))),
    Instr.findNow (.int .i64) (.int .i64 k) es i = some ((m.findIdx? (fun p => p.1 == k)).bind fun j => (m[j]?).map fun p => (i + j, p.2))
  | [], m, i, h => by
    cases m with
    | nil => rfl
    | cons p r => simp at h
  | e :: es, m, i, h => by
    cases m with
    | nil => simp at h
    | cons p r =>
      simp only [List.map_cons, List.cons.injEq, Prod.mk.injEq] at h
      obtain ⟨⟨hk, hv⟩, hr⟩ := h
      have ih := findNow_ints k es r (i + 1) hr
      unfold Instr.findNow
      simp only [Instr.sameNow, hk, if_true]
      by_cases hpk : p.1 = k
      · have e1 : (k == p.1) = true := by simp [hpk]
        have e2 : (p.1 == k) = true := by simp [hpk]
        simp [e1, e2, hv, List.findIdx?_cons]
      · have e1 : (k == p.1) = false := by simp; omega
        have e2 : (p.1 == k) = false := by simp [hpk]
        simp only [e1, ih, List.findIdx?_cons, e2]
        cases r.findIdx? (fun p => p.1 == k) with
        | none => rfl
        | some j => simp [Nat.add_assoc, Nat.add_comm 1 j]

theorem findIdx_mget (m : List (Int × Value)) (k : Int) (i : Nat) : (((m.findIdx? (fun p => p.1 == k)).bind fun j => (m[j]?).map fun p => (i + j, p.2)).map (·.2)) = mget m k := by
  unfold mget
  induction m generalizing i with
  | nil => rfl
  | cons p r ih =>
    simp only [List.findIdx?_cons, List.find?_cons]
    by_cases hpk : (p.1 == k) = true
    · simp [hpk]
    · have e : (p.1 == k) = false := by simpa using hpk
      rw [e]
      have := ih (i + 1)
      simp only [Bool.false_eq_true, if_false]
      rw [← this]
      cases r.findIdx? (fun p => p.1 == k) with
      | none => rfl
      | some j => simp only [Option.map_some, Option.bind_some, List.getElem?_cons_succ]; cases r[j]? <;> rfl

section
variable {P : Program} {w : World} {b : Nat} {m : List (Int × Value)} {t kt e : TypeId}

theorem checkKey_int (hk : P.underlying kt = some (.int .i64)) (em : Bool) (k : Int) : (Instr.checkKey em 10000 kt (.int .i64 k)).run P w = .ok () w := by
  have h : ∀ n, (Instr.checkKey em (n + 1) kt (.int .i64 k)).run P w = .ok () w := fun n => by simp [Instr.checkKey, run_underlying hk]
  exact h 9999
theorem run_findKey_int (hk : P.underlying kt = some (.int .i64)) (k : Int) {es : List MapEntry} (h : es.map (fun e => (e.key, e.val)) = m.map (fun p => (Value.int .i64 p.1, p.2))) :
    (Instr.findKey kt (.int .i64 k) es).run P w = .ok ((m.findIdx? (fun p => p.1 == k)).bind fun j => (m[j]?).map fun p => (j, p.2)) w := by
  unfold Instr.findKey
  simp only [Sem.run_bind, run_underlying hk, Result.andThen_ok, findNow_ints k es m 0 h, Nat.zero_add]
  rfl

theorem run_lookup_i (h : MapAt w b m) (ht : P.underlying t = some (.map kt e)) (hk : P.underlying kt = some (.int .i64)) {z : Value} (hz : (zeroValue e).run P w = .ok z w) (k : Int) :
    (Instr.lookup t (.map (some b)) (.int .i64 k) false).run P w = .ok ((mget m k).getD z) w := by
  obtain ⟨es, c, hb, he⟩ := h
  have h1 := run_findKey_int (w := w) (P := P) hk k he
  have h2 := findIdx_mget m k 0
  simp only [Nat.zero_add] at h2
  generalize ((m.findIdx? (fun p => p.1 == k)).bind fun j => (m[j]?).map fun p => (j, p.2)) = F at h1 h2
  rw [← h2]
  cases F with
  | none => simp [Instr.lookup, run_underlying ht, MapKept.run_getObj_map hb, checkKey_int hk, h1, hz, Result.andThen]
  | some p => simp [Instr.lookup, run_underlying ht, MapKept.run_getObj_map hb, checkKey_int hk, h1, Result.andThen]
theorem run_lookup_ok_i (h : MapAt w b m) (ht : P.underlying t = some (.map kt e)) (hk : P.underlying kt = some (.int .i64)) {z : Value} (hz : (zeroValue e).run P w = .ok z w) (k : Int) :
    (Instr.lookup t (.map (some b)) (.int .i64 k) true).run P w = .ok (.tuple #[(mget m k).getD z, .bool (mget m k).isSome]) w := by
  obtain ⟨es, c, hb, he⟩ := h
  have h1 := run_findKey_int (w := w) (P := P) hk k he
  have h2 := findIdx_mget m k 0
  simp only [Nat.zero_add] at h2
  generalize ((m.findIdx? (fun p => p.1 == k)).bind fun j => (m[j]?).map fun p => (j, p.2)) = F at h1 h2
  rw [← h2]
  cases F with
  | none => simp [Instr.lookup, run_underlying ht, MapKept.run_getObj_map hb, checkKey_int hk, h1, hz, Result.andThen]
  | some p => simp [Instr.lookup, run_underlying ht, MapKept.run_getObj_map hb, checkKey_int hk, h1, Result.andThen]

theorem mset_none : ∀ (m : List (Int × Value)) (k : Int) (v : Value) (_ : m.findIdx? (fun p => p.1 == k) = none), mset m k v = m ++ [(k, v)]
  | [], k, v, _ => rfl
  | p :: r, k, v, h => by
    simp only [List.findIdx?_cons] at h
    split at h
    · cases h
    · rename_i hp
      simp at h
      simp [mset, hp, mset_none r k v (by simpa using h)]
theorem mset_some : ∀ (m : List (Int × Value)) (k : Int) (v : Value) (i : Nat) (_ : m.findIdx? (fun p => p.1 == k) = some i), mset m k v = m.set i (k, v) ∧ i < m.length ∧ ∃ v0, m[i]? = some (k, v0)
  | [], k, v, i, h => by simp at h
  | p :: r, k, v, i, h => by
    simp only [List.findIdx?_cons] at h
    split at h
    · rename_i hp
      injection h with h; subst h
      have : p.1 = k := by simpa using hp
      subst this
      exact ⟨by simp [mset], by simp, p.2, rfl⟩
    · rename_i hp
      obtain ⟨j, hj, rfl⟩ := Option.map_eq_some_iff.1 h
      obtain ⟨h1, h2, v0, h3⟩ := mset_some r k v j hj
      exact ⟨by simp [mset, hp, h1], by simp; omega, v0, by simpa using h3⟩
theorem mdel_none : ∀ (m : List (Int × Value)) (k : Int) (_ : m.findIdx? (fun p => p.1 == k) = none), mdel m k = m
  | [], k, _ => rfl
  | p :: r, k, h => by
    simp only [List.findIdx?_cons] at h
    split at h
    · cases h
    · rename_i hp
      simp at h
      simp [mdel, hp, mdel_none r k (by simpa using h)]
theorem mdel_some : ∀ (m : List (Int × Value)) (k : Int) (i : Nat) (_ : m.findIdx? (fun p => p.1 == k) = some i), mdel m k = m.eraseIdx i ∧ i < m.length
  | [], k, i, h => by simp at h
  | p :: r, k, i, h => by
    simp only [List.findIdx?_cons] at h
    split at h
    · rename_i hp
      injection h with h; subst h
      exact ⟨by simp [mdel, hp], by simp⟩
    · rename_i hp
      obtain ⟨j, hj, rfl⟩ := Option.map_eq_some_iff.1 h
      obtain ⟨h1, h2⟩ := mdel_some r k j hj
      exact ⟨by simp [mdel, hp, h1], by simp; omega⟩

theorem keeps_setObj (hb : b < w.heap.size) (o : Obj) : Keeps [b] w { w with heap := w.heap.setIfInBounds b o } :=
  ⟨rfl, rfl, rfl, by simp, fun k hk hn => by simp at hn; show (w.heap.setIfInBounds b o)[k]? = _; rw [Array.getElem?_setIfInBounds_ne (Ne.symm hn)]⟩

theorem run_mapUpdate_i (h : MapAt w b m) (ht : P.underlying t = some (.map kt e)) (hk : P.underlying kt = some (.int .i64)) (k : Int) (v : Value) :
    ∃ w', (Instr.mapUpdate t (.map (some b)) (.int .i64 k) v).run P w = .ok () w' ∧ MapAt w' b (mset m k v) ∧ Keeps [b] w w' := by
  have hlt := h.lt
  obtain ⟨es, c, hb, he⟩ := h
  have h1 := run_findKey_int (w := w) (P := P) hk k he
  cases hF : m.findIdx? (fun p => p.1 == k) with
  | none =>
    rw [hF] at h1
    refine ⟨_, by simp [Instr.mapUpdate, run_underlying ht, MapKept.run_getObj_map hb, checkKey_int hk, h1, Result.andThen, setObj, Sem.run, hb]; rfl, ⟨es.push ⟨.int .i64 k, v, c⟩, c + 1, by simp [hlt], ?_⟩, keeps_setObj hlt _⟩
    rw [mset_none m k v hF]
    simp [he]
  | some i =>
    rw [hF] at h1
    obtain ⟨h2, h3, v0, h4⟩ := mset_some m k v i hF
    have hsz : es.size = m.length := by have := congrArg List.length he; simpa using this
    obtain ⟨e0, he0⟩ : ∃ e0, es[i]? = some e0 := ⟨_, Array.getElem?_eq_getElem (by omega)⟩
    have hkey : e0.key = .int .i64 k := by
      have := congrArg (fun l => l[i]?) he
      simp only [List.getElem?_map, h4] at this
      rw [show es.toList[i]? = some e0 by simpa using he0] at this
      simp at this
      exact this.1
    refine ⟨_, by simp [Instr.mapUpdate, run_underlying ht, MapKept.run_getObj_map hb, checkKey_int hk, h1, h4, he0, hkey, Instr.keyThatStays, Instr.sameBits, Result.andThen, setObj, Sem.run, hb]; rfl, ⟨es.modify i fun e => { e with key := .int .i64 k, val := v }, c, by simp [hlt], ?_⟩, keeps_setObj hlt _⟩
    rw [h2]
    apply List.ext_getElem?
    intro j
    have hj := congrArg (fun l => l[j]?) he
    simp only [List.getElem?_map] at hj ⊢
    rw [show (es.modify i fun e => { e with key := .int .i64 k, val := v }).toList[j]? = if i = j then (es[j]?).map (fun e => { e with key := .int .i64 k, val := v }) else es[j]? by simp only [Array.toList_modify, List.getElem?_modify, Array.getElem?_toList]; split <;> simp_all]
    by_cases hij : i = j
    · subst hij
      simp [he0, h3]
    · rw [if_neg hij, List.getElem?_set_ne hij]
      simpa using hj

theorem map_eraseIdx' {α β : Type} (f : α → β) : ∀ (l : List α) (i : Nat), (l.eraseIdx i).map f = (l.map f).eraseIdx i
  | [], i => by simp
  | a :: l, 0 => rfl
  | a :: l, i + 1 => by simp [map_eraseIdx' f l i]
theorem run_delete_i (h : MapAt w b m) (ht : P.underlying t = some (.map kt e)) (hk : P.underlying kt = some (.int .i64)) (k : Int) (ts : Array TypeId) (ty : TypeId) (hts : ts[0]? = some t) :
    ∃ w', (Builtin.delete_ ts ty #[.map (some b), .int .i64 k]).run P w = .ok (.tuple #[]) w' ∧ MapAt w' b (mdel m k) ∧ Keeps [b] w w' := by
  have hlt := h.lt
  obtain ⟨es, c, hb, he⟩ := h
  have h1 := run_findKey_int (w := w) (P := P) hk k he
  have hsz : es.size = m.length := by have := congrArg List.length he; simpa using this
  cases hF : m.findIdx? (fun p => p.1 == k) with
  | none =>
    rw [hF] at h1
    refine ⟨_, by simp [Builtin.delete_, hts, run_underlying ht, MapKept.run_getObj_map hb, checkKey_int hk, h1, Result.andThen, setObj, Sem.run, hb]; rfl, ⟨es, c, by simp [hlt], ?_⟩, keeps_setObj hlt _⟩
    rw [mdel_none m k hF]; exact he
  | some i =>
    rw [hF] at h1
    obtain ⟨h2, h3⟩ := mdel_some m k i hF
    obtain ⟨p0, hp0⟩ : ∃ p0, m[i]? = some p0 := ⟨_, List.getElem?_eq_getElem h3⟩
    refine ⟨_, by simp [Builtin.delete_, hts, run_underlying ht, MapKept.run_getObj_map hb, checkKey_int hk, h1, hp0, Result.andThen, setObj, Sem.run, hb]; rfl, ⟨es.eraseIdxIfInBounds i, c, by simp [hlt], ?_⟩, keeps_setObj hlt _⟩
    rw [h2]
    have : (es.eraseIdxIfInBounds i).toList = es.toList.eraseIdx i := by simp
    rw [this, map_eraseIdx', he, ← map_eraseIdx']
end

/-- 'm[k] = v' at the operation. -/
theorem wpList_mapUpdate_i {P : Program} (w : World) {ops : Array Oper} {rest : List Oper} {o : Oper} {a : Act} {Q : Exit → Act → World → Prop}
    (hg : o.guard = none) (mo x vo : Operand) (t : TypeId) (hop : o.op = Op.mapUpdate t mo x vo) (kt e : TypeId) (ht : P.underlying t = some (.map kt e)) (hk : P.underlying kt = some (.int .i64)) (b : Nat) (m : List (Int × Value)) (k : Int) (v : Value)
    (hm : a.eval mo = .map (some b)) (h : MapAt w b m) (hx : a.eval x = .int .i64 k) (hv : a.eval vo = v)
    (hK : ∀ w', MapAt w' b (mset m k v) → Keeps [b] w w' → wpList P ops Q rest (a.put o.dst undef) w') : wpList P ops Q (o :: rest) a w := by
  refine wpList_plain hg fun K' hK' => ?_
  obtain ⟨w', hrun, r1, r2⟩ := run_mapUpdate_i (P := P) h ht hk k v
  unfold Oper.wp
  simp [execOp, hop, hm, hx, hv, hrun, Result.andThen]
  exact hK' _ _ (hK w' r1 r2)
theorem wpList_delete_i {P : Program} (w : World) {ops : Array Oper} {rest : List Oper} {o : Oper} {a : Act} {Q : Exit → Act → World → Prop}
    (hg : o.guard = none) (mo x : Operand) (t t2 : TypeId) (hop : o.op = Op.call { callee := .builtin .delete, args := #[mo, x], argTypes := #[t, t2] }) (kt e : TypeId) (ht : P.underlying t = some (.map kt e)) (hk : P.underlying kt = some (.int .i64)) (b : Nat) (m : List (Int × Value)) (k : Int)
    (hm : a.eval mo = .map (some b)) (h : MapAt w b m) (hx : a.eval x = .int .i64 k)
    (hK : ∀ w', MapAt w' b (mdel m k) → Keeps [b] w w' → wpList P ops Q rest (a.put o.dst (.tuple #[])) w') : wpList P ops Q (o :: rest) a w := by
  refine wpList_plain hg fun K' hK' => ?_
  obtain ⟨w', hrun, r1, r2⟩ := run_delete_i (P := P) h ht hk k #[t, t2] o.type rfl
  unfold Oper.wp execOp
  simp only [hop, resolve, invoke, builtin, Sem.run_bind, Sem.run_pure, Result.andThen_ok, List.map_toArray, List.map_cons, List.map_nil, hm, hx, hrun]
  exact hK' _ _ (hK w' r1 r2)

theorem mget_mset_same (m : List (Int × Value)) (k : Int) (v : Value) : mget (mset m k v) k = some v := by
  induction m with
  | nil => simp [mset, mget]
  | cons p r ih =>
    by_cases h : p.1 = k
    · simp [mset, mget, h]
    · simp only [mget] at ih ⊢
      simp [mset, h, ih]
theorem mget_mset_ne (m : List (Int × Value)) {k j : Int} (v : Value) (h : j ≠ k) : mget (mset m k v) j = mget m j := by
  induction m with
  | nil => simp [mset, mget, h, Ne.symm h]
  | cons p r ih =>
    simp only [mget] at ih ⊢
    by_cases hp : p.1 = k
    · subst hp; simp [mset, Ne.symm h]
    · by_cases hj : p.1 = j
      · subst hj; simp [mset, h]
      · simp [mset, hp, hj, ih]

end Go.Proofs.YtokbjopmfcggdaaGreat
