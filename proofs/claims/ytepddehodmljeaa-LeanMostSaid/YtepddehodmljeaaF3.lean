/- Walks: rulesBegun; SameSteps; RulesSteps. -/
import Derived.Test.YtepddehodmljeaaF1
namespace Go.Proofs.Ytepddehodmljeaa
open Go.RowKit Go.Maps

def rbL : List Stp := [(2, 0, [4, 0, 4, 1, 0]), (0, 1, [4, 1, 0])]
set_option maxRecDepth 100000 in
theorem rb : (fallsB rkL groupL = true ∧ fallsE rkL groupL = 0) ∧ (stepsE groupL [4, 4, 0, 1, 0] = 0 ∧ stepsL groupL [4, 4, 0, 1, 0] = rbL) ∧ (fallsB rkL [([2, -1], [3, -1])] = false ∧ fallsE rkL [([2, -1], [3, -1])] = 0) ∧ rulesE groupL = 0 ∧
    rulesE [([-1], [-1])] = 1 ∧ rulesE [([2, 0], [-1])] = 4 ∧ rulesE [([2, -5], [0])] = 3 := by decide +kernel
theorem rbn : ((((nthS rbL 0).1 : Nat) : Int) = 2 ∧ (((nthS rbL 0).2.1 : Nat) : Int) = 0 ∧ (nthS rbL 0).2.2 = [4, 0, 4, 1, 0]) ∧ ((((nthS rbL 1).1 : Nat) : Int) = 0 ∧ (((nthS rbL 1).2.1 : Nat) : Int) = 1 ∧ (nthS rbL 1).2.2 = [4, 1, 0]) := by decide +kernel

set_option maxRecDepth 100000 in
set_option maxHeartbeats 4000000 in
theorem rulesBegun_calls (w : World) : Calls Try.prog 90 #[] w fun e w' => e = .returned (.bool true) ∧ Below w.heap.size w w' := by
  go_enter Try.func90, Try.ntmps90
  go_wp2_with fail
  refine (rank_calls w).mono ?_
  rintro e w1 ⟨rv, rfl, hr, hB1⟩
  go_wp2_with fail
  refine (group_calls w1).mono ?_
  rintro e w2 ⟨gv, rfl, hg, hB2⟩
  replace hr := hr.below hB2
  replace hB1 := ext_trans hB1 hB2
  clear hB2
  go_wp2_with fail
  refine (Falls_calls rkL groupL _ _ w2 hr hg).mono ?_
  rintro e w3 ⟨rfl, hB3⟩
  clear hr hg
  replace hB1 := ext_trans hB1 hB3
  clear hB3
  rw [rb.1.1, rb.1.2]
  go_wp2_with fail
  refine (group_calls w3).mono ?_
  rintro e w4 ⟨gv2, rfl, hg, hB4⟩
  replace hB1 := ext_trans hB1 hB4
  clear hB4
  go_wp2_with fail
  refine (Steps_calls groupL [4, 4, 0, 1, 0] _ _ _ (hg.below RuleR.ok (below_alloc w4 _)) (lit_any w4 [4, 4, 0, 1, 0] (by decide))).mono ?_
  rintro e w5 ⟨s, rfl, hs, hB5⟩
  replace hB5 := ext_trans (below_alloc w4 _) hB5
  clear hg
  replace hB1 := ext_trans hB1 hB5
  clear hB5
  rw [rb.2.1.1]
  rw [rb.2.1.2] at hs
  replace hs := hs.mono StepR.ok .toAny
  obtain ⟨sb, so, sc, u0, rfl, -, -, -, -, -⟩ := steps_cell hs (j := 0) (by decide)
  rw [show rbL.length = 2 from rfl] at hs ⊢
  go_wp2_with fail
  refine (rank_calls w5).mono ?_
  rintro e w6 ⟨rv3, rfl, hr, hB6⟩
  replace hs := hs.below StepR.ok hB6
  replace hB1 := ext_trans hB1 hB6
  clear hB6
  go_wp2_with fail
  refine (Falls_calls rkL [([2, -1], [3, -1])] _ _ _ (hr.below (ext_alloc (ext_alloc (below_alloc w6 _) _) _)) (lit_rules1 (n := w6.heap.size + 1 + 1) (by simp) (r := ([2, -1], [3, -1])) ((lit_at w6 _ rfl [2, -1] (by decide)).below (below_alloc _ _)) (lit_at (w6.alloc _) (w6.heap.size + 1) (by simp) [3, -1] (by decide)))).mono ?_
  rintro e w7 ⟨rfl, hB7⟩
  replace hB7 := ext_trans (ext_alloc (ext_alloc (below_alloc w6 _) _) _) hB7
  clear hr
  replace hs := hs.below StepR.ok hB7
  replace hB1 := ext_trans hB1 hB7
  clear hB7
  rw [rb.2.2.1.1, rb.2.2.1.2]
  go_wp2_with fail
  refine (group_calls w7).mono ?_
  rintro e w8 ⟨gv4, rfl, hg, hB8⟩
  replace hs := hs.below StepR.ok hB8
  replace hB1 := ext_trans hB1 hB8
  clear hB8
  go_wp2_with fail
  refine (RCheck_calls groupL _ w8 hg).mono ?_
  rintro e w9 ⟨rfl, hB9⟩
  clear hg
  replace hs := hs.below StepR.ok hB9
  replace hB1 := ext_trans hB1 hB9
  clear hB9
  rw [rb.2.2.2.1]
  go_wp2_with fail
  refine (RCheck_calls [([-1], [-1])] _ _ (lit_rules1 (n := w9.heap.size + 1 + 1) (by simp) (r := ([-1], [-1])) ((lit_at w9 _ rfl [-1] (by decide)).below (below_alloc _ _)) (lit_at (w9.alloc _) (w9.heap.size + 1) (by simp) [-1] (by decide)))).mono ?_
  rintro e w10 ⟨rfl, hB10⟩
  replace hB10 := ext_trans (ext_alloc (ext_alloc (below_alloc w9 _) _) _) hB10
  replace hs := hs.below StepR.ok hB10
  replace hB1 := ext_trans hB1 hB10
  clear hB10
  rw [rb.2.2.2.2.1]
  go_wp2_with fail
  refine (RCheck_calls [([2, 0], [-1])] _ _ (lit_rules1 (n := w10.heap.size + 1 + 1) (by simp) (r := ([2, 0], [-1])) ((lit_at w10 _ rfl [2, 0] (by decide)).below (below_alloc _ _)) (lit_at (w10.alloc _) (w10.heap.size + 1) (by simp) [-1] (by decide)))).mono ?_
  rintro e w11 ⟨rfl, hB11⟩
  replace hB11 := ext_trans (ext_alloc (ext_alloc (below_alloc w10 _) _) _) hB11
  replace hs := hs.below StepR.ok hB11
  replace hB1 := ext_trans hB1 hB11
  clear hB11
  rw [rb.2.2.2.2.2.1]
  go_wp2_with fail
  refine (RCheck_calls [([2, -5], [0])] _ _ (lit_rules1 (n := w11.heap.size + 1 + 1) (by simp) (r := ([2, -5], [0])) ((lit_at w11 _ rfl [2, -5] (by decide)).below (below_alloc _ _)) (lit_at (w11.alloc _) (w11.heap.size + 1) (by simp) [0] (by decide)))).mono ?_
  rintro e w12 ⟨rfl, hB12⟩
  replace hB12 := ext_trans (ext_alloc (ext_alloc (below_alloc w11 _) _) _) hB12
  replace hs := hs.below StepR.ok hB12
  replace hB1 := ext_trans hB1 hB12
  clear hB12
  rw [rb.2.2.2.2.2.2]
  obtain ⟨b0, o0, k0, u0, e0, -, ca0, cb0, cc0, hu0⟩ := steps_cell hs (j := 0) (by decide)
  cases e0
  rw [rbn.1.1] at ca0
  rw [rbn.1.2.1] at cb0
  rw [rbn.1.2.2] at hu0
  simp only [Nat.zero_mul, Nat.add_zero] at ca0 cb0 cc0
  go_wp2_with fail
  refine (SameTerms_eq [4, 0, 4, 1, 0] _ _ _ (hu0.below (below_alloc w12 _)) (lit_any w12 [4, 0, 4, 1, 0] (by decide))).mono ?_
  rintro e w13 ⟨rfl, hB13⟩
  replace hB13 := ext_trans (below_alloc w12 _) hB13
  clear ca0 cb0 cc0 hu0
  replace hs := hs.below StepR.ok hB13
  replace hB1 := ext_trans hB1 hB13
  clear hB13
  obtain ⟨b1, o1, k1, u1, e1, -, ca1, cb1, cc1, hu1⟩ := steps_cell hs (j := 1) (by decide)
  cases e1
  rw [rbn.2.1] at ca1
  rw [rbn.2.2.1] at cb1
  rw [rbn.2.2.2] at hu1
  simp only [Nat.one_mul, Nat.add_assoc, Nat.reduceAdd] at ca1 cb1 cc1
  go_wp2_with fail
  refine (SameTerms_eq [4, 1, 0] _ _ _ (hu1.below (below_alloc w13 _)) (lit_any w13 [4, 1, 0] (by decide))).mono ?_
  rintro e w14 ⟨rfl, hB14⟩
  replace hB14 := ext_trans (below_alloc w13 _) hB14
  clear ca1 cb1 cc1 hu1
  replace hs := hs.below StepR.ok hB14
  replace hB1 := ext_trans hB1 hB14
  clear hB14
  go_wp2_with fail
  go_ret
  exact ⟨rfl, hB1⟩

end Go.Proofs.Ytepddehodmljeaa
