/- Proved: where a rule fits what a term has become, at a place of the term's own, the term leans by that rule, there; the law's row holds. No condition. -/
import Derived.Test.YtepddehodmljeaaE5
import Derived.Test.YtepddehodmljeaaL5
namespace Go.Proofs.Ytepddehodmljeaa
open Go.ChangeShapes Go.WideShapes Go.ChangeAt Go.RowKit

set_option maxRecDepth 100000 in
theorem leanMost_lifted (os : Os) (started : os.Started) (H : Type) (enc : TypeId × Value → H) :
    ReturnsInHanded {} Try.checked os 31 .any (Rows.leanMostSpec.pre6 enc Try.prog Try.f31 Rows.leanMostRow.domain false) (Rows.leanMostSpec.post enc Try.prog Try.f31 false true false false) := by
  refine returnsInHanded_of_change (C := Try.checked) Try.own started (by kernel_rfl) Try.func31
    (ChangeSpec.witness6 (enc := enc) (C := Try.checked) false ⟨#[], #[.slice none 0 0, .slice none 0 0, .slice none 0 0], []⟩ 8 (by kernel_rfl) (by kernel_rfl) (by kernel_rfl) (by kernel_rfl)) ?_
  intro W base args ds gs before hval0 hW hcnd _
  have hval : ∀ (j : Nat) t v, Try.f31.params[j]? = some t → args[j]? = some v → Value.okWide Try.prog W .any base t v := hval0
  have hW' : DataW.Whole enc Try.prog Try.f31.params.toList Rows.leanMostSpec.vars false W args.toList ds gs before := hW
  obtain ⟨p, q, hA0, hV, rfl, hfz, hnd⟩ := hW
  have hA : DataW.TrodAll enc Try.prog W 0 (fun _ => true) true Try.f31.params.toList args.toList ds p := hA0
  rw [Try.params31] at hA hval
  obtain ⟨v0, v1, v2, d0, d1, d2, p0, p1, p2, rfl, rfl, rfl, h0, h1, h2⟩ := trodAll_three hA
  obtain ⟨rfl, rfl⟩ := trodVars_none hV
  obtain ⟨x0, hx0⟩ := open_rules_arg (hval 0 49 v0 rfl rfl) h0
  obtain ⟨x1, hx1⟩ := open_ints_arg Try.underlying24 (hval 1 24 v1 rfl rfl) h1
  obtain ⟨x2, hx2⟩ := open_terms_arg (hval 2 22 v2 rfl rfl) h2
  refine (LeanMost_calls x0 x1 x2 v0 v1 v2 W hx0 hx1 hx2).mono fun e W' ⟨he, hb⟩ => ?_
  exact ⟨_, he, law_post rfl rfl (by rw [Try.params31]; decide) hW' rfl hb⟩

theorem leanMost_facts : joinedFacts Try.prog 31 Try.f31 Rows.leanMostSpec Rows.leanMostRow = true := by
  unfold joinedFacts
  rw [io_enter, io_final, io_make]
  kernel_rfl

theorem leanMost_holds : Rows.LeanMostSaid :=
  OpenClaim.holds_of_wide 31 Try.f31 rfl rfl rfl rfl rfl rfl rfl ⟨rfl, rfl, rfl, rfl, rfl⟩ rfl rfl rfl rfl rfl (by kernel_rfl) Try.func31 leanMost_facts
    (of_decide_eq_true (by kernel_rfl)) (by unfold Func.isWrapper; first | (rw [if_pos (by decide +kernel)]; kernel_rfl) | (rw [if_neg (by decide +kernel)]; exact ⟨rfl, rfl⟩))
    (fun os started H enc _ => leanMost_lifted os started H enc)
#print axioms leanMost_holds
end Go.Proofs.Ytepddehodmljeaa
