/- Proved: Rules: Check and Falls answer just what the document says, errors too, whatever they are handed.; the law's row holds. No condition. -/
import Derived.Test.YtepddehodmljeaaE5
import Derived.Test.YtepddehodmljeaaW4
namespace Go.Proofs.Ytepddehodmljeaa
open Go.ChangeShapes Go.WideShapes Go.ChangeAt Go.RowKit

set_option maxRecDepth 100000 in
theorem rulesTells_lifted (os : Os) (started : os.Started) (H : Type) (enc : TypeId × Value → H) :
    ReturnsInHanded {} Try.checked os 24 .any (Rows.rulesTellsSpec.pre6 enc Try.prog Try.f24 Rows.rulesTellsRow.domain false) (Rows.rulesTellsSpec.post enc Try.prog Try.f24 false true false false) := by
  refine returnsInHanded_of_change (C := Try.checked) Try.own started (by kernel_rfl) Try.func24
    (ChangeSpec.witness6 (enc := enc) (C := Try.checked) false ⟨#[], #[.slice none 0 0, .slice none 0 0], []⟩ 8 (by kernel_rfl) (by kernel_rfl) (by kernel_rfl) (by kernel_rfl)) ?_
  intro W base args ds gs before hval0 hW hcnd _
  have hval : ∀ (j : Nat) t v, Try.f24.params[j]? = some t → args[j]? = some v → Value.okWide Try.prog W .any base t v := hval0
  have hW' : DataW.Whole enc Try.prog Try.f24.params.toList Rows.rulesTellsSpec.vars false W args.toList ds gs before := hW
  obtain ⟨p, q, hA0, hV, rfl, hfz, hnd⟩ := hW
  have hA : DataW.TrodAll enc Try.prog W 0 (fun _ => true) true Try.f24.params.toList args.toList ds p := hA0
  rw [Try.params24] at hA hval
  obtain ⟨v0, v1, d0, d1, p0, p1, rfl, rfl, rfl, h0, h1⟩ := trodAll_two hA
  obtain ⟨rfl, rfl⟩ := trodVars_none hV
  obtain ⟨x0, hx0⟩ := open_ints_arg Try.underlying23 (hval 0 23 v0 rfl rfl) h0
  obtain ⟨x1, hx1⟩ := open_rules_arg (hval 1 49 v1 rfl rfl) h1
  refine (RulesTells_calls x0 x1 v0 v1 W hx0 hx1).mono fun e W' ⟨he, hb⟩ => ?_
  exact ⟨_, he, law_post rfl rfl (by rw [Try.params24]; decide) hW' rfl hb⟩

theorem rulesTells_facts : joinedFacts Try.prog 24 Try.f24 Rows.rulesTellsSpec Rows.rulesTellsRow = true := by
  unfold joinedFacts
  rw [io_enter, io_final, io_make]
  kernel_rfl

theorem rulesTells_holds : Rows.RulesTellsSaid :=
  OpenClaim.holds_of_wide 24 Try.f24 rfl rfl rfl rfl rfl rfl rfl ⟨rfl, rfl, rfl, rfl, rfl⟩ rfl rfl rfl rfl rfl (by kernel_rfl) Try.func24 rulesTells_facts
    (of_decide_eq_true (by kernel_rfl)) (by unfold Func.isWrapper; first | (rw [if_pos (by decide +kernel)]; kernel_rfl) | (rw [if_neg (by decide +kernel)]; exact ⟨rfl, rfl⟩))
    (fun os started H enc _ => rulesTells_lifted os started H enc)
#print axioms rulesTells_holds
end Go.Proofs.Ytepddehodmljeaa
