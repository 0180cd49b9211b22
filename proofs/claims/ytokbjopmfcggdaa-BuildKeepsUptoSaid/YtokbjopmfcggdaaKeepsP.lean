/- BuildKeeps, plain: a place that is used stays as it was; build.Make of no graph. -/
import Derived.Test.YtokbjopmfcggdaaMade
import Derived.Test.YtokbjopmfcggdaaCallsF
import Derived.Test.YtokbjopmfcggdaaAwakeK
namespace Go.Proofs.Ytokbjopmfcggdaa
open Go.RowKit
set_option linter.unusedVariables false
set_option linter.unusedSimpArgs false
set_option linter.unnecessarySimpa false

theorem putR_keeps {most : Nat} {G : List (Option Nd)} {nd x : Nd} {i : Int} (h : gget G i = some x) : gget (putR most G nd).2 i = some x := by
  unfold putR
  split
  · exact gget_gput_old h
  · exact h
mutual
theorem mkC_keeps (most : Nat) {x : Nd} {i : Int} : ∀ (c : Core) (s : St), gget s.G i = some x → gget (mkC most c s).2.G i = some x
  | .mk k n a => by
    intro s h
    unfold mkC
    split
    · exact h
    · split
      · exact mkLet_keeps most n a s h
      · split
        · exact mkFree_keeps most n a s h
        · refine putR_keeps (mkA_keeps most a _ ?_)
          split <;> exact h
theorem mkLet_keeps (most : Nat) {x : Nd} {i : Int} (n : Int) : ∀ (a : List Core) (s : St), gget s.G i = some x → gget (mkLet most n a s).2.G i = some x
  | [], s, h => by unfold mkLet; exact h
  | [c], s, h => by unfold mkLet; exact h
  | [c, d], s, h => by unfold mkLet; exact mkC_keeps most d _ (mkC_keeps most c s h)
  | c :: d :: e :: r, s, h => by unfold mkLet; exact h
theorem mkFree_keeps (most : Nat) {x : Nd} {i : Int} (n : Int) : ∀ (a : List Core) (s : St), gget s.G i = some x → gget (mkFree most n a s).2.G i = some x
  | [], s, h => by unfold mkFree; exact h
  | [c], s, h => by unfold mkFree; exact mkC_keeps most c _ (putR_keeps h)
  | c :: d :: r, s, h => by unfold mkFree; exact h
theorem mkA_keeps (most : Nat) {x : Nd} {i : Int} : ∀ (a : List Core) (s : St), gget s.G i = some x → gget (mkA most a s).2.G i = some x
  | [], s, h => by unfold mkA; exact h
  | c :: r, s, h => by unfold mkA; exact mkA_keeps most r _ (mkC_keeps most c s h)
end
theorem makeF_keeps {most : Nat} {G : List (Option Nd)} {c : Core} {l : List Int} {id : Int} {x : Nd} {i : Int} (h : gget G i = some x) : gget (makeF most G c l id).2 i = some x := by
  unfold makeF
  split
  · split
    · exact mkC_keeps most c _ h
    · exact h
  · exact h

theorem build_make_nil {w : World} {k n idn : Int} {sv va : Value} : Calls Try.prog 9 #[.pointer none, .agg #[.int .i64 k, .int .i64 n, sv], va, .int .i64 idn] w fun e w' => e = .returned (.tuple #[.int .i64 0, .int .i64 idn, .int .i64 8]) ∧ Keeps [] w w' := by
  go_enter Try.func9, Try.ntmps9
  go_wp2
  refine bodyPost_ret (v := .tuple #[.int .i64 0, .int .i64 idn, .int .i64 8]) (by simp [results, Try.results9, go_sem, *]) rfl ?_
  exact ⟨rfl, (Keeps.refl _ _).alloc _⟩

end Go.Proofs.Ytokbjopmfcggdaa
