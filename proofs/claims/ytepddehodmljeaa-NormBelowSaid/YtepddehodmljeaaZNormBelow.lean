/- Proved: of rules that fall the form is below or it is the term itself, for whatever ranks, rules and term; the law's row holds. No condition. -/
import Derived.Test.YtepddehodmljeaaE5
import Derived.Test.YtepddehodmljeaaF2
namespace Go.Proofs.Ytepddehodmljeaa
open Go.ChangeShapes Go.WideShapes Go.ChangeAt Go.RowKit

set_option maxRecDepth 100000 in
theorem normBelow_lifted (os : Os) (started : os.Started) (H : Type) (enc : TypeId × Value → H) :
    ReturnsInHanded {} Try.checked os 28 .any (Rows.normBelowSpec.pre6 enc Try.prog Try.f28 Rows.normBelowRow.domain false) (Rows.normBelowSpec.post enc Try.prog Try.f28 false true false false) := by
  refine returnsInHanded_of_change (C := Try.checked) Try.own started (by kernel_rfl) Try.func28
    (ChangeSpec.witness6 (enc := enc) (C := Try.checked) false ⟨#[], #[.slice none 0 0, .slice none 0 0, .slice none 0 0], []⟩ 8 (by kernel_rfl) (by kernel_rfl) (by kernel_rfl) (by kernel_rfl)) ?_
  intro W base args ds gs before hval0 hW hcnd _
  have hval : ∀ (j : Nat) t v, Try.f28.params[j]? = some t → args[j]? = some v → Value.okWide Try.prog W .any base t v := hval0
  have hW' : DataW.Whole enc Try.prog Try.f28.params.toList Rows.normBelowSpec.vars false W args.toList ds gs before := hW
  obtain ⟨p, q, hA0, hV, rfl, hfz, hnd⟩ := hW
  have hA : DataW.TrodAll enc Try.prog W 0 (fun _ => true) true Try.f28.params.toList args.toList ds p := hA0
  rw [Try.params28] at hA hval
  obtain ⟨v0, v1, v2, d0, d1, d2, p0, p1, p2, rfl, rfl, rfl, h0, h1, h2⟩ := trodAll_three hA
  obtain ⟨rfl, rfl⟩ := trodVars_none hV
  obtain ⟨x0, hx0⟩ := open_ints_arg Try.underlying23 (hval 0 23 v0 rfl rfl) h0
  obtain ⟨x1, hx1⟩ := open_rules_arg (hval 1 49 v1 rfl rfl) h1
  obtain ⟨x2, hx2⟩ := open_ints_arg Try.underlying24 (hval 2 24 v2 rfl rfl) h2
  refine (NormBelow_calls x0 x1 x2 v0 v1 v2 W hx0 hx1 hx2).mono fun e W' ⟨he, hb⟩ => ?_
  exact ⟨_, he, law_post rfl rfl (by rw [Try.params28]; decide) hW' rfl hb⟩

theorem normBelow_facts : joinedFacts Try.prog 28 Try.f28 Rows.normBelowSpec Rows.normBelowRow = true := by
  unfold joinedFacts
  rw [io_enter, io_final, io_make]
  kernel_rfl

theorem normBelow_holds : Rows.NormBelowSaid :=
  OpenClaim.holds_of_wide 28 Try.f28 rfl rfl rfl rfl rfl rfl rfl ⟨rfl, rfl, rfl, rfl, rfl⟩ rfl rfl rfl rfl rfl (by kernel_rfl) Try.func28 normBelow_facts
    (of_decide_eq_true (by kernel_rfl)) (by unfold Func.isWrapper; first | (rw [if_pos (by decide +kernel)]; kernel_rfl) | (rw [if_neg (by decide +kernel)]; exact ⟨rfl, rfl⟩))
    (fun os started H enc _ => normBelow_lifted os started H enc)
#print axioms normBelow_holds
end Go.Proofs.Ytepddehodmljeaa
