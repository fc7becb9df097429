/- Proved: sub.Check and sub.Apply answer just what the reference answers, errors too, at every list and every term; the law's row holds. No condition. -/
import Derived.Test.YtepddehodmljeaaE2
import Derived.Test.YtepddehodmljeaaD8
namespace Go.Proofs.Ytepddehodmljeaa
open Go.ChangeShapes Go.WideShapes Go.ChangeAt Go.RowKit

set_option maxRecDepth 100000 in
theorem subTells_lifted (os : Os) (started : os.Started) (H : Type) (enc : TypeId × Value → H) :
    ReturnsInHanded {} Try.checked os 3 .any (Rows.subTellsSpec.pre6 enc Try.prog Try.f3 Rows.subTellsRow.domain false) (Rows.subTellsSpec.post enc Try.prog Try.f3 false true false false) := by
  refine returnsInHanded_of_change (C := Try.checked) Try.own started (by kernel_rfl) Try.func3
    (ChangeSpec.witness6 (enc := enc) (C := Try.checked) false ⟨#[], #[.slice none 0 0, .slice none 0 0], []⟩ 8 (by kernel_rfl) (by kernel_rfl) (by kernel_rfl) (by kernel_rfl)) ?_
  intro W base args ds gs before hval0 hW hcnd _
  have hval : ∀ (j : Nat) t v, Try.f3.params[j]? = some t → args[j]? = some v → Value.okWide Try.prog W .any base t v := hval0
  have hW' : DataW.Whole enc Try.prog Try.f3.params.toList Rows.subTellsSpec.vars false W args.toList ds gs before := hW
  obtain ⟨p, q, hA0, hV, rfl, hfz, hnd⟩ := hW
  have hA : DataW.TrodAll enc Try.prog W 0 (fun _ => true) true Try.f3.params.toList args.toList ds p := hA0
  rw [Try.params3] at hA hval
  obtain ⟨v0, v1, d0, d1, p0, p1, rfl, rfl, rfl, h0, h1⟩ := trodAll_two hA
  obtain ⟨rfl, rfl⟩ := trodVars_none hV
  obtain ⟨s, hs⟩ := open_terms_arg (hval 0 22 v0 rfl rfl) h0
  obtain ⟨t, ht⟩ := open_ints_arg Try.underlying24 (hval 1 24 v1 rfl rfl) h1
  refine (SubTells_calls s t v0 v1 W hs ht).mono fun e W' ⟨he, hb⟩ => ?_
  exact ⟨_, he, law_post rfl rfl (by rw [Try.params3]; decide) hW' rfl hb⟩

theorem subTells_facts : joinedFacts Try.prog 3 Try.f3 Rows.subTellsSpec Rows.subTellsRow = true := by
  unfold joinedFacts
  rw [io_enter, io_final, io_make]
  kernel_rfl

theorem subTells_holds : Rows.SubTellsSaid :=
  OpenClaim.holds_of_wide 3 Try.f3 rfl rfl rfl rfl rfl rfl rfl ⟨rfl, rfl, rfl, rfl, rfl⟩ rfl rfl rfl rfl rfl (by kernel_rfl) Try.func3 subTells_facts
    (of_decide_eq_true (by kernel_rfl)) (by unfold Func.isWrapper; first | (rw [if_pos (by decide +kernel)]; kernel_rfl) | (rw [if_neg (by decide +kernel)]; exact ⟨rfl, rfl⟩))
    (fun os started H enc _ => subTells_lifted os started H enc)
#print axioms subTells_holds
end Go.Proofs.Ytepddehodmljeaa
