/- slices.Contains at []int; build.slots, seen, Bound. -/
import Derived.Test.YtokbjopmfcggdaaGreatCore
import Derived.Test.YtokbjopmfcggdaaGreatMap
namespace Go.Proofs.YtokbjopmfcggdaaGreat
open Go.RowKit
set_option linter.unusedVariables false
set_option linter.unusedSimpArgs false
set_option linter.unnecessarySimpa false

def IndexPost (w : World) (l : List Int) (m : Int) (e : Ending) (w' : World) : Prop := ∃ r : Int, e = .returned (.int .i64 r) ∧ (0 ≤ r ↔ m ∈ l) ∧ w = w'
theorem row_at {S : Nat → Prop} {w : World} {v : Value} {l : List Int} (h : RowAt S w 1 v l.length (ints l)) :
    ∃ base cap, v = .slice base l.length cap ∧ l.length ≤ cap ∧ cap ≤ maxLen ∧ ∀ i, i < l.length → ∃ g off, base = some ⟨g, off, none⟩ ∧ S g ∧ g < w.heap.size ∧ w.cell? ⟨g, off + i, none⟩ = some (.int .i64 (l.getD i 0)) := by
  obtain ⟨base, cap, rfl, h1, h2, _⟩ := h.form
  refine ⟨base, cap, rfl, h1, h2, fun i hi => ?_⟩
  obtain ⟨g, off, cp, hv, _, _, hS, hg, hc⟩ := h.cells (by omega)
  injection hv with hv
  refine ⟨g, off, hv, hS, hg, hc i _ ?_⟩
  simp [ints, List.getD_eq_getElem?_getD, List.getElem?_eq_getElem hi]

theorem index_int {S : Nat → Prop} {w : World} {v : Value} {l : List Int} (h : RowAt S w 1 v l.length (ints l)) (m : Int) : Calls Tryz.prog 78 #[v, .int .i64 m] w (IndexPost w l m) := by
  obtain ⟨base, cap, rfl, h1, h2, hc⟩ := row_at h
  unfold maxLen at h2
  have HC := Lib.hid hc
  clear hc h
  go_enter Tryz.func78, Tryz.ntmps78
  go_wp2
  generalize hn : l.length = n at *
  have HN := Lib.hid hn
  clear hn
  go_loopg [8] n (fun q s8 wr => ∃ i : Nat, i ≤ n ∧ q = n - i ∧ s8 = .int .i64 (i : Nat) ∧ m ∉ l.take i ∧ wr = w)
  case atStart => exact ⟨0, Nat.zero_le _, rfl, rfl, by simp, rfl⟩
  case round =>
    obtain ⟨i, hi, rfl, rfl, hnot, rfl⟩ := hrel
    have HT := Lib.hid hnot
    clear hnot
    by_cases hlt : i < n
    · obtain ⟨g, off, rfl, _, _, hcell⟩ := HC.out i hlt
      have hx : l[i]? = some (l.getD i 0) := by rw [List.getD_eq_getElem?_getD, List.getElem?_eq_getElem (by rw [HN.out]; exact hlt)]; rfl
      have HX := Lib.hid hx
      clear hx
      generalize l.getD i 0 = x at *
      by_cases he : m = x
      · have hb : (m == x) = true := by simp [he]
        have HM := Lib.hid he
        clear he
        go_wp2
        go_ret
        refine ⟨i, rfl, ⟨fun _ => ?_, fun _ => by omega⟩, rfl⟩
        rw [HM.out]; exact List.mem_of_getElem? HX.out
      · have hb : (m == x) = false := by simp [he]
        have HM := Lib.hid he
        clear he
        go_wp2
        go_roundg (n - (i + 1))
        case measure => omega
        case rel =>
          refine ⟨i + 1, by omega, rfl, by go_num, ?_, rfl⟩
          rw [take_snoc' HX.out]
          intro hm
          rcases List.mem_append.1 hm with h1 | h1
          · exact HT.out h1
          · exact HM.out (by simpa using h1)
    · obtain rfl : i = n := by omega
      go_wp2
      go_ret
      refine ⟨-1, rfl, ⟨fun h => by omega, fun h => ?_⟩, rfl⟩
      have := HT.out
      rw [← HN.out, List.take_length] at this
      exact absurd h this

def ContainsPost (w : World) (b : Bool) (e : Ending) (w' : World) : Prop := e = .returned (.bool b) ∧ w = w'
theorem contains_int {S : Nat → Prop} {w : World} {v : Value} {l : List Int} (h : RowAt S w 1 v l.length (ints l)) (m : Int) : Calls Tryz.prog 56 #[v, .int .i64 m] w (ContainsPost w (decide (m ∈ l))) := by
  obtain ⟨base, cap, rfl, h1, h2, _⟩ := h.form
  go_enter Tryz.func56, Tryz.ntmps56
  go_wp2_with fail
  refine (index_int h m).mono ?_
  rintro e w' ⟨r, rfl, hr, rfl⟩
  have HR := Lib.hid hr
  clear hr
  go_wp2
  go_ret
  exact ⟨ret_bool (by rw [decide_eq_decide]; exact HR.out.symm), rfl⟩

/-! ### slots -/
mutual
def slotsC (n : Int) : Core → List Int → List Int × Bool
  | .mk k m a, out => if k = 9 ∨ k = 10 then (if m < n ∨ m ∈ out then (out, false) else slotsA n a (out ++ [m])) else slotsA n a out
def slotsA (n : Int) : List Core → List Int → List Int × Bool
  | [], out => (out, true)
  | c :: r, out => if (slotsC n c out).2 = true then slotsA n r (slotsC n c out).1 else ((slotsC n c out).1, false)
end
theorem slotsC_eq (n : Int) (c : Core) (out : List Int) : slotsC n c out = if c.kind = 9 ∨ c.kind = 10 then (if c.n < n ∨ c.n ∈ out then (out, false) else slotsA n c.args (out ++ [c.n])) else slotsA n c.args out := by cases c; rw [slotsC]; rfl
mutual
theorem slotsC_len (n : Int) : ∀ (c : Core) (out : List Int), (slotsC n c out).1.length ≤ out.length + csize c
  | .mk k m a, out => by
    unfold slotsC csize
    have h1 := slotsA_len n a (out ++ [m])
    have h2 := slotsA_len n a out
    simp only [List.length_append, List.length_singleton] at h1
    split
    · split
      · simp
      · omega
    · omega
theorem slotsA_len (n : Int) : ∀ (a : List Core) (out : List Int), (slotsA n a out).1.length ≤ out.length + csizes a
  | [], out => by simp [slotsA, csizes]
  | c :: r, out => by
    unfold slotsA csizes
    have h1 := slotsC_len n c out
    have h2 := slotsA_len n r (slotsC n c out).1
    split
    · omega
    · simp only; omega
end

def SlotsPost (w : World) (B : Nat) (vo : Value) (r : List Int × Bool) (e : Ending) (w' : World) : Prop :=
  ∃ v', e = .returned (.tuple #[v', .bool r.2]) ∧ w'.ownsRow B 3 1 v' r.1.length (ints r.1) ∧ Keeps vo.ownBlock.toList w w' ∧ ∀ x, v'.ownBlock = some x → vo.ownBlock = some x ∨ w.heap.size ≤ x
def SlotsSaid (N : Nat) : Prop := ∀ (S : Nat → Prop) (w : World) (c : Core) (v : Value) (B : Nat) (vo : Value) (out : List Int) (n : Int), csize c ≤ N → N ≤ 1048576 → out.length + csize c ≤ 1048576 → CoreAt S w c v → (∀ b, S b → b < B) → B ≤ w.heap.size → w.ownsRow B 3 1 vo out.length (ints out) →
  Calls Tryz.prog 82 #[vo, v, .int .i64 n] w (SlotsPost w B vo (slotsC n c out))
set_option maxHeartbeats 1000000 in
theorem build_slots : ∀ N, SlotsSaid N := by
  intro N
  induction N with
  | zero => intro S w c v B vo out n hN _ _ _ _ _ _; have := csize_pos c; omega
  | succ N IH =>
    intro S w c v B vo out n hN hN2 hN3 h hS hB ho
    obtain ⟨base, cap, rfl, hc1, hc2⟩ := h.form
    have hlen := csize_len c
    have hco := fun m (o : Obj) => contains_int (RowAt.of_owns (ho.alloc o)) m
    obtain ⟨vb, vc, rfl, hvc⟩ := ownsRow_zero ho
    have HE := Lib.hid (slotsC_eq n c out)
    have hs := csize_eq c
    have HCO := Lib.hid hco
    generalize hk : c.kind = k at *
    generalize hm : c.n = m at *
    have hcase : ((k = 9 ∨ k = 10) ∧ m < n) ∨ ((k = 9 ∨ k = 10) ∧ ¬ m < n ∧ m ∈ out) ∨ ((k = 9 ∨ k = 10) ∧ ¬ m < n ∧ m ∉ out) ∨ ¬ (k = 9 ∨ k = 10) := by
      by_cases h1 : k = 9 ∨ k = 10
      · by_cases h2 : m < n
        · exact .inl ⟨h1, h2⟩
        · by_cases h3 : m ∈ out
          · exact .inr (.inl ⟨h1, h2, h3⟩)
          · exact .inr (.inr (.inl ⟨h1, h2, h3⟩))
      · exact .inr (.inr (.inr h1))
    rcases hcase with ⟨hk2, hlt⟩ | ⟨hk2, hlt, hin⟩ | ⟨hk2, hlt, hin⟩ | hk2
    · have he : slotsC n c out = (out, false) := by rw [HE.out, if_pos hk2, if_pos (.inl hlt)]
      have HO := Lib.hid (And.intro he ho)
      clear he ho h hco
      rcases hk2 with rfl | rfl
      all_goals
        go_enter Tryz.func82, Tryz.ntmps82
        go_wp2
        go_ret2
        rw [HO.out.1]
        exact ⟨_, rfl, HO.out.2.alloc _, (Keeps.refl _ _).alloc _, fun x hx => .inl hx⟩
    · have he : slotsC n c out = (out, false) := by rw [HE.out, if_pos hk2, if_pos (.inr hin)]
      have hd : decide (m ∈ out) = true := by simp [hin]
      have HO := Lib.hid (And.intro he ho)
      clear he ho h hco hin
      rcases hk2 with rfl | rfl
      all_goals
        go_enter Tryz.func82, Tryz.ntmps82
        go_wp2_with (go_at_call 56; refine (HCO.out _ _).mono ?_; rintro e w' ⟨rfl, rfl⟩)
        go_ret2
        rw [HO.out.1]
        exact ⟨_, rfl, HO.out.2.alloc _, (Keeps.refl _ _).alloc _, fun x hx => .inl hx⟩
    · have he : slotsC n c out = slotsA n c.args (out ++ [m]) := by rw [HE.out, if_pos hk2, if_neg (by intro h; rcases h with h | h; exact hlt h; exact hin h)]
      have hd : decide (m ∈ out) = false := by simp [hin]
      obtain ⟨i3, hi3, hz3, hs3, hy3⟩ := info_parts Tryz.info3
      generalize hR : slotsC n c out = R at *
      generalize hM : c.args.length = M at *
      have HO := Lib.hid (And.intro he (And.intro ho (And.intro h hin)))
      clear he ho h hco hin hR HE
      unfold maxLen at hc2
      rcases hk2 with rfl | rfl
      all_goals
        go_enter Tryz.func82, Tryz.ntmps82
        go_wp2_with (first | (go_at_call 56; refine (HCO.out _ _).mono ?_; rintro e w' ⟨rfl, rfl⟩) | (at_builtin; refine wpList_append_lies _ rfl _ _ 71 rfl B 3 i3 (.int .i64 0) 1 8 Tryz.underlying71 hi3 hz3 hs3 hy3 rfl (by decide) (.slice vb out.length vc) out.length (ints out) rfl ?_ _ 1 1 [.int .i64 m] rfl rfl ?_ ?_ (by decide) ?_ ?_ ?_ _ rfl ?_))
        · exact (HO.out.2.1.alloc _).alloc _
        · exact cells_of_blk (heap_new_at (by simp))
        · simp [Value.oneCell']
        · unfold maxLen; omega
        · omega
        · simp; omega
        intro g1 cap1 w1 ho1 hgrow1 hat1 hgl1
        obtain ⟨he, ho, h, hin⟩ := HO.out
        have hK1 : Keeps (Value.slice vb out.length vc).ownBlock.toList w w1 := (((Keeps.refl _ w).alloc _).alloc _).grown hgrow1 (fun x hx => .inl (by simp [hx]))
        have hb1 : ∀ x, (Value.slice (some ⟨g1, 0, none⟩) (out.length + 1) cap1).ownBlock = some x → (Value.slice vb out.length vc).ownBlock = some x ∨ w.heap.size ≤ x := fun x hx => by
          simp only [Value.ownBlock, Option.some.injEq] at hx
          subst hx
          rcases hat1 with h1 | h1
          · exact .inl h1
          · exact .inr (by omega)
        have ho1' : w1.ownsRow B 3 1 (.slice (some ⟨g1, 0, none⟩) (out.length + 1) cap1) (out ++ [m]).length (ints (out ++ [m])) := by simpa [ints] using ho1
        have bx := ((Blk.new w #[.int .i64 _, .int .i64 m, .slice base M cap] 46).alloc (.cells #[.int .i64 m] 3)).grown hgrow1 (fun hh => by have := (ho.lt _ hh.symm).2; omega)
        have x2 := bx.cell 2
        have H1 := Lib.hid (And.intro he (And.intro ho1' (And.intro hK1 hb1)))
        clear he ho1' ho1 hK1 hb1 hgrow1 hat1 hin bx HO
        go_wp2_with fail
        go_loopg [0, 8, 38] M (fun q s0 s8 s38 wr => ∃ (i : Nat) (out2 : List Int) (v2 : Value), i ≤ M ∧ q = M - i ∧ s0 = v2 ∧ s8 = .bool true ∧ s38 = .int .i64 (i : Nat) ∧ slotsA n (c.args.drop i) out2 = R ∧ out2.length + csizes (c.args.drop i) ≤ 1048576 ∧ wr.ownsRow B 3 1 v2 out2.length (ints out2) ∧ Keeps (Value.slice vb out.length vc).ownBlock.toList w wr ∧ ∀ x, v2.ownBlock = some x → (Value.slice vb out.length vc).ownBlock = some x ∨ w.heap.size ≤ x)
        case atStart => exact ⟨0, out ++ [m], _, Nat.zero_le _, rfl, rfl, rfl, rfl, by rw [List.drop_zero]; exact H1.out.1.symm, by simp only [List.drop_zero, List.length_append, List.length_singleton]; omega, H1.out.2.1, H1.out.2.2.1, H1.out.2.2.2⟩
        case round =>
          obtain ⟨i, out2, v2, hi, rfl, rfl, rfl, rfl, hr2, hl2, ho2, hK, hb2⟩ := hrel
          obtain ⟨v2b, v2c, rfl, hv2c⟩ := ownsRow_zero ho2
          by_cases hlt2 : i < M
          · have hfix : Fix S w wr := hK.fix (fun b hb => ⟨by have := hS b hb; omega, fun hx => by have := hS b hb; have := (ho.lt b (by simpa using hx)).1; omega⟩)
            obtain ⟨g, off, k1, m1, sv, x, rfl, hx, hSg, hg, e0, e1, e2, hx3⟩ := h.step hfix hlt2
            have hdr := drop_cons hx
            have hcs : csizes (c.args.drop i) = csize x + csizes (c.args.drop (i + 1)) := by rw [hdr, csizes]
            have hrr : (if (slotsC n x out2).2 = true then slotsA n (c.args.drop (i + 1)) (slotsC n x out2).1 else ((slotsC n x out2).1, false)) = R := by rw [← hr2, hdr, slotsA]
            have hC := fun o => IH S (wr.alloc o) x _ B _ out2 n (by have := csize_arg hx; omega) (by omega) (by omega) (CoreAt.keep (fun b hb => Below.heap_alloc _ _ _ (by have := hS b hb; have := hK.size; omega)) _ _ hx3) hS (by have := hK.size; simp; omega) (ho2.alloc o)
            have hlen2 := slotsC_len n x out2
            obtain ⟨sb, sc, rfl⟩ := hx3.slice
            generalize hrx : slotsC n x out2 = r at *
            have hsz := hK.size
            have H2 := Lib.hid (And.intro hC (And.intro hrr (And.intro hK (And.intro hb2 (And.intro ho hcs)))))
            clear hC hrr hK hb2 ho2 h hfix hx hdr hcs hr2 hx3 hrx ho hS
            cases hb : r.2 with
            | true =>
              go_wp2_with fail
              refine (H2.out.1 _).mono ?_
              rintro e w1 ⟨v3, rfl, ho3, hk3, hb3⟩
              rw [hb]
              obtain ⟨_, hrr, hK, hb2, ho, hcs⟩ := H2.out
              have hKK := (hK.alloc _).trans hk3 (fun x hx => (hb2 x (by simpa using hx)).imp (fun h => by simp [h]) id)
              have hb3' : ∀ x, v3.ownBlock = some x → (Value.slice vb out.length vc).ownBlock = some x ∨ w.heap.size ≤ x := fun x hx => by
                rcases hb3 x hx with h1 | h1
                · exact hb2 x h1
                · simp at h1; exact .inr (by omega)
              rw [if_pos hb] at hrr
              have H3 := Lib.hid (And.intro hrr (And.intro ho3 (And.intro hKK (And.intro hb3' hcs))))
              clear hrr hK hb2 ho3 hk3 hb3 hKK hb3' H2 ho hcs hb
              go_wp2_with fail
              go_roundg (M - (i + 1))
              case measure => omega
              case rel =>
                obtain ⟨hrr, ho3, hKK, hb3', hcs⟩ := H3.out
                exact ⟨i + 1, r.1, v3, by omega, rfl, rfl, rfl, by go_num, hrr, by omega, ho3, hKK, hb3'⟩
            | false =>
              go_wp2_with fail
              refine (H2.out.1 _).mono ?_
              rintro e w1 ⟨v3, rfl, ho3, hk3, hb3⟩
              rw [hb]
              obtain ⟨_, hrr, hK, hb2, ho, hcs⟩ := H2.out
              have hKK := (hK.alloc _).trans hk3 (fun x hx => (hb2 x (by simpa using hx)).imp (fun h => by simp [h]) id)
              have hb3' : ∀ x, v3.ownBlock = some x → (Value.slice vb out.length vc).ownBlock = some x ∨ w.heap.size ≤ x := fun x hx => by
                rcases hb3 x hx with h1 | h1
                · exact hb2 x h1
                · simp at h1; exact .inr (by omega)
              rw [if_neg (by simp [hb])] at hrr
              have H3 := Lib.hid (And.intro hrr (And.intro ho3 (And.intro hKK hb3')))
              clear hrr hK hb2 ho3 hk3 hb3 hKK hb3' H2 ho hcs hb
              go_wp2_with fail
              go_ret2
              obtain ⟨hrr, ho3, hKK, hb3'⟩ := H3.out
              rw [← hrr]
              exact ⟨_, rfl, ho3, hKK, hb3'⟩
          · obtain rfl : i = M := by omega
            have hdn : c.args.drop i = [] := List.drop_eq_nil_of_le (by omega)
            rw [hdn, slotsA] at hr2
            have H2 := Lib.hid (And.intro hr2 (And.intro ho2 (And.intro hK hb2)))
            clear hr2 ho2 hK hb2 h ho hS hdn
            go_wp2
            go_ret2
            obtain ⟨hr2, ho2, hK, hb2⟩ := H2.out
            rw [← hr2]
            exact ⟨_, rfl, ho2, hK, hb2⟩
    · have he : slotsC n c out = slotsA n c.args out := by rw [HE.out, if_neg hk2]
      generalize hR : slotsC n c out = R at *
      generalize hM : c.args.length = M at *
      have HO := Lib.hid (And.intro he (And.intro ho h))
      clear he ho h hco hR HE
      unfold maxLen at hc2
      have q1 : (k == 9) = false := by simp; omega
      have q2 : (k == 10) = false := by simp; omega
      clear hk2
      obtain ⟨he, ho, h⟩ := HO.out
      have H1 := Lib.hid (And.intro he (And.intro ho h))
      clear he ho h HO
      all_goals
        go_enter Tryz.func82, Tryz.ntmps82
        go_wp2
        obtain ⟨_, ho, h⟩ := H1.out
        go_loopg [0, 8, 38] M (fun q s0 s8 s38 wr => ∃ (i : Nat) (out2 : List Int) (v2 : Value), i ≤ M ∧ q = M - i ∧ s0 = v2 ∧ s8 = .bool true ∧ s38 = .int .i64 (i : Nat) ∧ slotsA n (c.args.drop i) out2 = R ∧ out2.length + csizes (c.args.drop i) ≤ 1048576 ∧ wr.ownsRow B 3 1 v2 out2.length (ints out2) ∧ Keeps (Value.slice vb out.length vc).ownBlock.toList w wr ∧ ∀ x, v2.ownBlock = some x → (Value.slice vb out.length vc).ownBlock = some x ∨ w.heap.size ≤ x)
        case atStart => exact ⟨0, out, _, Nat.zero_le _, rfl, rfl, rfl, rfl, by rw [List.drop_zero]; exact H1.out.1.symm, by simp only [List.drop_zero]; omega, H1.out.2.1.alloc _, (Keeps.refl _ _).alloc _, fun x hx => .inl hx⟩
        case round =>
          obtain ⟨i, out2, v2, hi, rfl, rfl, rfl, rfl, hr2, hl2, ho2, hK, hb2⟩ := hrel
          obtain ⟨v2b, v2c, rfl, hv2c⟩ := ownsRow_zero ho2
          by_cases hlt2 : i < M
          · have hfix : Fix S w wr := hK.fix (fun b hb => ⟨by have := hS b hb; omega, fun hx => by have := hS b hb; have := (ho.lt b (by simpa using hx)).1; omega⟩)
            obtain ⟨g, off, k1, m1, sv, x, rfl, hx, hSg, hg, e0, e1, e2, hx3⟩ := h.step hfix hlt2
            have hdr := drop_cons hx
            have hcs : csizes (c.args.drop i) = csize x + csizes (c.args.drop (i + 1)) := by rw [hdr, csizes]
            have hrr : (if (slotsC n x out2).2 = true then slotsA n (c.args.drop (i + 1)) (slotsC n x out2).1 else ((slotsC n x out2).1, false)) = R := by rw [← hr2, hdr, slotsA]
            have hC := fun o => IH S (wr.alloc o) x _ B _ out2 n (by have := csize_arg hx; omega) (by omega) (by omega) (CoreAt.keep (fun b hb => Below.heap_alloc _ _ _ (by have := hS b hb; have := hK.size; omega)) _ _ hx3) hS (by have := hK.size; simp; omega) (ho2.alloc o)
            have hlen2 := slotsC_len n x out2
            obtain ⟨sb, sc, rfl⟩ := hx3.slice
            generalize hrx : slotsC n x out2 = r at *
            have hsz := hK.size
            have H2 := Lib.hid (And.intro hC (And.intro hrr (And.intro hK (And.intro hb2 (And.intro ho hcs)))))
            clear hC hrr hK hb2 ho2 h hfix hx hdr hcs hr2 hx3 hrx ho hS
            cases hb : r.2 with
            | true =>
              go_wp2_with fail
              refine (H2.out.1 _).mono ?_
              rintro e w1 ⟨v3, rfl, ho3, hk3, hb3⟩
              rw [hb]
              obtain ⟨_, hrr, hK, hb2, ho, hcs⟩ := H2.out
              have hKK := (hK.alloc _).trans hk3 (fun x hx => (hb2 x (by simpa using hx)).imp (fun h => by simp [h]) id)
              have hb3' : ∀ x, v3.ownBlock = some x → (Value.slice vb out.length vc).ownBlock = some x ∨ w.heap.size ≤ x := fun x hx => by
                rcases hb3 x hx with h1 | h1
                · exact hb2 x h1
                · simp at h1; exact .inr (by omega)
              rw [if_pos hb] at hrr
              have H3 := Lib.hid (And.intro hrr (And.intro ho3 (And.intro hKK (And.intro hb3' hcs))))
              clear hrr hK hb2 ho3 hk3 hb3 hKK hb3' H2 ho hcs hb
              go_wp2_with fail
              go_roundg (M - (i + 1))
              case measure => omega
              case rel =>
                obtain ⟨hrr, ho3, hKK, hb3', hcs⟩ := H3.out
                exact ⟨i + 1, r.1, v3, by omega, rfl, rfl, rfl, by go_num, hrr, by omega, ho3, hKK, hb3'⟩
            | false =>
              go_wp2_with fail
              refine (H2.out.1 _).mono ?_
              rintro e w1 ⟨v3, rfl, ho3, hk3, hb3⟩
              rw [hb]
              obtain ⟨_, hrr, hK, hb2, ho, hcs⟩ := H2.out
              have hKK := (hK.alloc _).trans hk3 (fun x hx => (hb2 x (by simpa using hx)).imp (fun h => by simp [h]) id)
              have hb3' : ∀ x, v3.ownBlock = some x → (Value.slice vb out.length vc).ownBlock = some x ∨ w.heap.size ≤ x := fun x hx => by
                rcases hb3 x hx with h1 | h1
                · exact hb2 x h1
                · simp at h1; exact .inr (by omega)
              rw [if_neg (by simp [hb])] at hrr
              have H3 := Lib.hid (And.intro hrr (And.intro ho3 (And.intro hKK hb3')))
              clear hrr hK hb2 ho3 hk3 hb3 hKK hb3' H2 ho hcs hb
              go_wp2_with fail
              go_ret2
              obtain ⟨hrr, ho3, hKK, hb3'⟩ := H3.out
              rw [← hrr]
              exact ⟨_, rfl, ho3, hKK, hb3'⟩
          · obtain rfl : i = M := by omega
            have hdn : c.args.drop i = [] := List.drop_eq_nil_of_le (by omega)
            rw [hdn, slotsA] at hr2
            have H2 := Lib.hid (And.intro hr2 (And.intro ho2 (And.intro hK hb2)))
            clear hr2 ho2 hK hb2 h ho hS hdn
            go_wp2
            go_ret2
            obtain ⟨hr2, ho2, hK, hb2⟩ := H2.out
            rw [← hr2]
            exact ⟨_, rfl, ho2, hK, hb2⟩

end Go.Proofs.YtokbjopmfcggdaaGreat
