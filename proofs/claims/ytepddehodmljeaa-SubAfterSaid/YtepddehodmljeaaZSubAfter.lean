/- Proved: sub.After and sub.Plain answer just what the reference answers, errors too, at every pair of lists and every term; the law's row holds. No condition. -/
import Derived.Test.YtepddehodmljeaaE2
import Derived.Test.YtepddehodmljeaaD9
namespace Go.Proofs.Ytepddehodmljeaa
open Go.ChangeShapes Go.WideShapes Go.ChangeAt Go.RowKit

set_option maxRecDepth 100000 in
theorem subAfter_lifted (os : Os) (started : os.Started) (H : Type) (enc : TypeId × Value → H) :
    ReturnsInHanded {} Try.checked os 4 .any (Rows.subAfterSpec.pre6 enc Try.prog Try.f4 Rows.subAfterRow.domain false) (Rows.subAfterSpec.post enc Try.prog Try.f4 false true false false) := by
  refine returnsInHanded_of_change (C := Try.checked) Try.own started (by kernel_rfl) Try.func4
    (ChangeSpec.witness6 (enc := enc) (C := Try.checked) false ⟨#[], #[.slice none 0 0, .slice none 0 0, .slice none 0 0], []⟩ 8 (by kernel_rfl) (by kernel_rfl) (by kernel_rfl) (by kernel_rfl)) ?_
  intro W base args ds gs before hval0 hW hcnd _
  have hval : ∀ (j : Nat) t v, Try.f4.params[j]? = some t → args[j]? = some v → Value.okWide Try.prog W .any base t v := hval0
  have hW' : DataW.Whole enc Try.prog Try.f4.params.toList Rows.subAfterSpec.vars false W args.toList ds gs before := hW
  obtain ⟨p, q, hA0, hV, rfl, hfz, hnd⟩ := hW
  have hA : DataW.TrodAll enc Try.prog W 0 (fun _ => true) true Try.f4.params.toList args.toList ds p := hA0
  rw [Try.params4] at hA hval
  obtain ⟨v0, v1, v2, d0, d1, d2, p0, p1, p2, rfl, rfl, rfl, h0, h1, h2⟩ := trodAll_three hA
  obtain ⟨rfl, rfl⟩ := trodVars_none hV
  obtain ⟨s, hs⟩ := open_terms_arg (hval 0 22 v0 rfl rfl) h0
  obtain ⟨r, hr⟩ := open_terms_arg (hval 1 22 v1 rfl rfl) h1
  obtain ⟨t, ht⟩ := open_ints_arg Try.underlying24 (hval 2 24 v2 rfl rfl) h2
  refine (SubAfter_calls s r t v0 v1 v2 W hs hr ht).mono fun e W' ⟨he, hb⟩ => ?_
  exact ⟨_, he, law_post rfl rfl (by rw [Try.params4]; decide) hW' rfl hb⟩

theorem subAfter_facts : joinedFacts Try.prog 4 Try.f4 Rows.subAfterSpec Rows.subAfterRow = true := by
  unfold joinedFacts
  rw [io_enter, io_final, io_make]
  kernel_rfl

theorem subAfter_holds : Rows.SubAfterSaid :=
  OpenClaim.holds_of_wide 4 Try.f4 rfl rfl rfl rfl rfl rfl rfl ⟨rfl, rfl, rfl, rfl, rfl⟩ rfl rfl rfl rfl rfl (by kernel_rfl) Try.func4 subAfter_facts
    (of_decide_eq_true (by kernel_rfl)) (by unfold Func.isWrapper; first | (rw [if_pos (by decide +kernel)]; kernel_rfl) | (rw [if_neg (by decide +kernel)]; exact ⟨rfl, rfl⟩))
    (fun os started H enc _ => subAfter_lifted os started H enc)
#print axioms subAfter_holds
end Go.Proofs.Ytepddehodmljeaa
