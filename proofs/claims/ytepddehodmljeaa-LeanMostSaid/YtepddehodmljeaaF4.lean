/- Walks: SameSteps; RulesSteps. -/
import Derived.Test.YtepddehodmljeaaF3
namespace Go.Proofs.Ytepddehodmljeaa
open Go.RowKit Go.Maps

set_option maxRecDepth 100000 in
set_option maxHeartbeats 2000000 in
theorem SameSteps_eq (l : List Stp) (hl : l.length ≤ 1000000) (u v : Value) (w : World) (hu : IsSteps Any w u l) (hv : IsSteps Any w v l) :
    Calls Try.prog 93 #[u, v] w fun e w' => e = .returned (.bool true) ∧ Below w.heap.size w w' := by
  obtain ⟨a1, c1, rfl⟩ := hu.isSlice
  obtain ⟨a2, c2, rfl⟩ := hv.isSlice
  have HU := Lib.hid hu
  have HV := Lib.hid hv
  have hll : (l.length : Int) ≤ 1000000 := by omega
  clear hu hv
  go_enter Try.func93, Try.ntmps93
  go_wp2_with fail
  go_loopw [5] (fun i wr => ∃ k : Nat, k ≤ l.length ∧ i = .int .i64 k ∧ Hid (Below w.heap.size w wr)) (fun i _ => l.length - (intOf i).toNat)
  case atStart => exact ⟨0, Nat.zero_le _, rfl, .refl _ _⟩
  case round =>
    obtain ⟨k, hk, rfl, hR⟩ := hrel
    by_cases hlt : k < l.length
    · obtain ⟨b, o, c, x, e1, -, ca, cb, cc, hx⟩ := steps_cell (HU.out.below StepR.ok hR.out) hlt
      cases e1
      obtain ⟨b', o', c', x', e2, -, ca', cb', cc', hx'⟩ := steps_cell (HV.out.below StepR.ok hR.out) hlt
      cases e2
      have hq : Hid (∀ n, Calls Try.prog 39 #[x, x'] (wr.drewN n) fun e w' => e = .returned (.bool true) ∧ ∃ m, w' = (wr.drewN n).drewN m) := fun n =>
        (SameTerms_calls _ _ _ _ (wr.drewN n) (hx.below (below_drewN _ _ _)) (hx'.below (below_drewN _ _ _))).mono fun e w' h => ⟨by rw [h.1, decide_eq_true rfl], h.2⟩
      have hkk : (k : Int) < l.length := by omega
      clear hx hx'
      generalize (nthS l k).1 = g1 at *
      generalize (nthS l k).2.1 = g2 at *
      go_wp2_with fail
      go_quiet ((go_at_call 39; exact Calls.quiet_of (hq.out _)))
      go_wp2_with fail
      go_roundw
      case rel => exact ⟨k + 1, by omega, by go_num, ext_trans hR.out (below_drewN _ _ _)⟩
      case measure => simp [intOf]; omega
    · obtain rfl : k = l.length := by omega
      go_wp2_with fail
      go_ret
      exact ⟨rfl, hR.out⟩

theorem stepsL_le (l : Rus) (t : List Int) : (stepsL l t).length ≤ 1000000 := by
  unfold stepsL
  split
  · rename_i h
    obtain ⟨h1, h2⟩ := askE_zero h
    have h3 := allP_len l t h1.1 t.length
    have h4 := len_of_chk h2
    unfold stL
    split
    · simp
    · omega
  · simp

set_option maxRecDepth 100000 in
set_option maxHeartbeats 1000000 in
theorem RulesSteps_calls (l : Rus) (t : List Int) (v x : Value) (w : World) (hv : IsRules Any w v l) (hx : IsInts Any w x t) : Calls Try.prog 25 #[v, x] w fun e w' => e = .returned (.bool true) ∧ Below w.heap.size w w' := by
  obtain ⟨va, vc, rfl⟩ := hv.isSlice
  obtain ⟨xa, xc, rfl⟩ := hx.isSlice
  go_enter Try.func25, Try.ntmps25
  go_wp2_with fail
  refine (Steps_calls l t _ _ w hv hx).mono ?_
  rintro e w1 ⟨y, rfl, hy, hB1⟩
  replace hv := hv.below RuleR.ok hB1
  replace hx := hx.below hB1
  replace hy := hy.mono StepR.ok .toAny
  go_wp2_with fail
  refine (StepsOf_calls l t _ _ w1 hv hx).mono ?_
  rintro e w2 ⟨z, rfl, hz, hB2⟩
  clear hv hx
  replace hy := hy.below StepR.ok hB2
  replace hz := hz.mono StepR.ok .toAny
  replace hB1 := ext_trans hB1 hB2
  clear hB2
  go_wp2_with fail
  refine (rulesBegun_calls w2).mono ?_
  rintro e w3 ⟨rfl, hB3⟩
  replace hy := hy.below StepR.ok hB3
  replace hz := hz.below StepR.ok hB3
  replace hB1 := ext_trans hB1 hB3
  clear hB3
  go_wp2_with fail
  refine (SameSteps_eq (stepsL l t) (stepsL_le l t) _ _ w3 hy hz).mono ?_
  rintro e w4 ⟨rfl, hB4⟩
  clear hy hz
  replace hB1 := ext_trans hB1 hB4
  clear hB4
  go_wp2_with fail
  go_ret
  exact ⟨rfl, hB1⟩

end Go.Proofs.Ytepddehodmljeaa
