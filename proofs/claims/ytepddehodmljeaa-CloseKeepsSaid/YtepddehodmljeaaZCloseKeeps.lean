/- Proved: behind a turn all rules and pairs hold in a world just where all held, for whatever ranks, rules, pairs and world; the law's row holds. No condition. -/
import Derived.Test.YtepddehodmljeaaE6
import Derived.Test.YtepddehodmljeaaHa
namespace Go.Proofs.Ytepddehodmljeaa
open Go.ChangeShapes Go.WideShapes Go.ChangeAt Go.RowKit

set_option maxRecDepth 100000 in
theorem closeKeeps_lifted (os : Os) (started : os.Started) (H : Type) (enc : TypeId × Value → H) :
    ReturnsInHanded {} Try.checked os 10 .any (Rows.closeKeepsSpec.pre6 enc Try.prog Try.f10 Rows.closeKeepsRow.domain false) (Rows.closeKeepsSpec.post enc Try.prog Try.f10 false true false false) := by
  refine returnsInHanded_of_change (C := Try.checked) Try.own started (by kernel_rfl) Try.func10
    (ChangeSpec.witness6 (enc := enc) (C := Try.checked) false ⟨#[], #[.slice none 0 0, .slice none 0 0, .slice none 0 0, .agg #[.int .i64 0, .int .i64 0, .int .i64 0, .int .i64 0, .int .i64 0, .int .i64 0, .int .i64 0, .int .i64 0, .int .i64 0, .int .i64 0, .int .i64 0, .int .i64 0, .int .i64 0, .int .i64 0, .int .i64 0, .int .i64 0, .int .i64 0, .int .i64 0, .int .i64 0, .int .i64 0, .int .i64 0, .int .i64 0, .int .i64 0, .int .i64 0, .int .i64 0, .int .i64 0]], []⟩ 8 (by kernel_rfl) (by kernel_rfl) (by kernel_rfl) (by kernel_rfl)) ?_
  intro W base args ds gs before hval0 hW hcnd _
  have hval : ∀ (j : Nat) t v, Try.f10.params[j]? = some t → args[j]? = some v → Value.okWide Try.prog W .any base t v := hval0
  have hW' : DataW.Whole enc Try.prog Try.f10.params.toList Rows.closeKeepsSpec.vars false W args.toList ds gs before := hW
  obtain ⟨p, q, hA0, hV, rfl, hfz, hnd⟩ := hW
  have hA : DataW.TrodAll enc Try.prog W 0 (fun _ => true) true Try.f10.params.toList args.toList ds p := hA0
  rw [Try.params10] at hA hval
  obtain ⟨v0, v1, v2, v3, d0, d1, d2, d3, p0, p1, p2, p3, rfl, rfl, rfl, h0, h1, h2, h3⟩ := trodAll_four hA
  obtain ⟨rfl, rfl⟩ := trodVars_none hV
  obtain ⟨x0, hx0⟩ := open_ints_arg Try.underlying23 (hval 0 23 v0 rfl rfl) h0
  obtain ⟨x1, hx1⟩ := open_rules_arg (hval 1 49 v1 rfl rfl) h1
  obtain ⟨x2, hx2⟩ := open_pairs_arg (hval 2 50 v2 rfl rfl) h2
  obtain ⟨x3, hx3⟩ := open_model_arg (hval 3 57 v3 rfl rfl) h3
  refine (CloseKeeps_all x0 x1 x2 x3 v0 v1 v2 v3 W hx0 hx1 hx2 hx3).mono fun e W' ⟨he, hb⟩ => ?_
  exact ⟨_, he, law_post rfl rfl (by rw [Try.params10]; decide) hW' rfl hb⟩

theorem closeKeeps_facts : joinedFacts Try.prog 10 Try.f10 Rows.closeKeepsSpec Rows.closeKeepsRow = true := by
  unfold joinedFacts
  rw [io_enter, io_final, io_make]
  kernel_rfl

theorem closeKeeps_holds : Rows.CloseKeepsSaid :=
  OpenClaim.holds_of_wide 10 Try.f10 rfl rfl rfl rfl rfl rfl rfl ⟨rfl, rfl, rfl, rfl, rfl⟩ rfl rfl rfl rfl rfl (by kernel_rfl) Try.func10 closeKeeps_facts
    (of_decide_eq_true (by kernel_rfl)) (by unfold Func.isWrapper; first | (rw [if_pos (by decide +kernel)]; kernel_rfl) | (rw [if_neg (by decide +kernel)]; exact ⟨rfl, rfl⟩))
    (fun os started H enc _ => closeKeeps_lifted os started H enc)
#print axioms closeKeeps_holds
end Go.Proofs.Ytepddehodmljeaa
