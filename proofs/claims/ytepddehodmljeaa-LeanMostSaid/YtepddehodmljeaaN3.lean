/- Walks: group; normBegun; NormForms, NormTrue. -/
import Derived.Test.YtepddehodmljeaaG6
import Derived.Test.YtepddehodmljeaaG5
namespace Go.Proofs.Ytepddehodmljeaa
open Go.RowKit Go.Maps

def groupL : Rus := [([4, 0, -1], [-1]), ([4, 2, -1, -1], [0]), ([4, 4, -1, -2, -3], [4, -1, 4, -2, -3])]
set_option maxRecDepth 100000 in
theorem nb : formE groupL [4, 4, 0, 1, 0] = 0 ∧ formN groupL [4, 4, 0, 1, 0] = 2 ∧ formT groupL [4, 4, 0, 1, 0] = [4, 1, 0] ∧ isB groupL [4, 1, 0] = true ∧ stepsE groupL [4, 1, 0] = 0 ∧
    formE [([2, -1], [2, -1])] fxgaT = 2 ∧ formE [([2, -1], [2, 2, -1])] fxgaT = 2 := by decide +kernel

theorem lit_rules1 {w : World} {n : Nat} (hn : n = w.heap.size) {u v : Value} {r : List Int × List Int} (hu : IsInts Any w u r.1) (hv : IsInts Any w v r.2) :
    IsRules Any (w.alloc (.cells #[u, v] 102)) (.slice (some ⟨n, 0, none⟩) 1 1) [r] := by
  subst hn
  have hb := below_alloc w (.cells #[u, v] 102)
  refine ⟨by simp, .inr ⟨by simp, w.heap.size, 0, 1, rfl, by simp, trivial, by simp, [u, v], ⟨[u, v], [], rfl, rfl, ⟨u, v, rfl, hu.below hb, hv.below hb⟩, rfl⟩, fun j x hj => ?_⟩⟩
  rw [World.cell?_alloc_at _ _ _ _ rfl, Nat.zero_add]
  simpa using hj

theorem lit_rules3 {w : World} {n : Nat} (hn : n = w.heap.size) {u v u' v' u'' v'' : Value} {r r' r'' : List Int × List Int} (hu : IsInts Any w u r.1) (hv : IsInts Any w v r.2) (hu' : IsInts Any w u' r'.1) (hv' : IsInts Any w v' r'.2)
    (hu'' : IsInts Any w u'' r''.1) (hv'' : IsInts Any w v'' r''.2) : IsRules Any (w.alloc (.cells #[u, v, u', v', u'', v''] 102)) (.slice (some ⟨n, 0, none⟩) 3 3) [r, r', r''] := by
  subst hn
  have hb := below_alloc w (.cells #[u, v, u', v', u'', v''] 102)
  refine ⟨by simp, .inr ⟨by simp, w.heap.size, 0, 3, rfl, by simp, trivial, by simp, [u, v, u', v', u'', v''],
    ⟨[u, v], [u', v', u'', v''], rfl, rfl, ⟨u, v, rfl, hu.below hb, hv.below hb⟩, [u', v'], [u'', v''], rfl, rfl, ⟨u', v', rfl, hu'.below hb, hv'.below hb⟩, [u'', v''], [], rfl, rfl, ⟨u'', v'', rfl, hu''.below hb, hv''.below hb⟩, rfl⟩, fun j x hj => ?_⟩⟩
  rw [World.cell?_alloc_at _ _ _ _ rfl, Nat.zero_add]
  simpa using hj
theorem lit_at (w : World) (n : Nat) (hn : n = w.heap.size) (xs : List Int) (hl : xs.length ≤ 1000) : IsInts Any (w.alloc (.cells (xs.map (Value.int .i64)).toArray 3)) (.slice (some ⟨n, 0, none⟩) xs.length xs.length) xs := by
  subst hn; exact lit_any w xs hl

set_option maxRecDepth 100000 in
theorem group_calls (w : World) : Calls Try.prog 154 #[] w fun e w' => ∃ v, e = .returned v ∧ IsRules Any w' v groupL ∧ Below w.heap.size w w' := by
  go_enter Try.func154, Try.ntmps154
  go_wp2_with fail
  go_ret
  refine ⟨_, rfl, lit_rules3 (by simp) ?_ ?_ ?_ ?_ ?_ ?_, ext_alloc (ext_alloc (ext_alloc (ext_alloc (ext_alloc (ext_alloc (below_alloc _ _) _) _) _) _) _) _⟩
  · exact (lit_at w _ rfl [4, 0, -1] (by decide)).below (ext_alloc (ext_alloc (ext_alloc (ext_alloc (below_alloc _ _) _) _) _) _)
  · exact (lit_at (w.alloc _) _ (by simp) [-1] (by decide)).below (ext_alloc (ext_alloc (ext_alloc (below_alloc _ _) _) _) _)
  · exact (lit_at ((w.alloc _).alloc _) _ (by simp) [4, 2, -1, -1] (by decide)).below (ext_alloc (ext_alloc (below_alloc _ _) _) _)
  · exact (lit_at (((w.alloc _).alloc _).alloc _) _ (by simp) [0] (by decide)).below (ext_alloc (below_alloc _ _) _)
  · exact (lit_at ((((w.alloc _).alloc _).alloc _).alloc _) _ (by simp) [4, 4, -1, -2, -3] (by decide)).below (below_alloc _ _)
  · exact lit_at (((((w.alloc _).alloc _).alloc _).alloc _).alloc _) _ (by simp) [4, -1, 4, -2, -3] (by decide)

set_option maxRecDepth 100000 in
set_option maxHeartbeats 2000000 in
theorem normBegun_calls (w : World) : Calls Try.prog 87 #[] w fun e w' => e = .returned (.bool true) ∧ Below w.heap.size w w' := by
  go_enter Try.func87, Try.ntmps87
  go_wp2_with fail
  refine (group_calls w).mono ?_
  rintro e w1 ⟨gv, rfl, hg, hB1⟩
  go_wp2_with fail
  refine (Form_calls groupL [4, 4, 0, 1, 0] _ _ _ (hg.below RuleR.ok (below_alloc w1 _)) (lit_any w1 [4, 4, 0, 1, 0] (by decide))).mono ?_
  rintro e w2 ⟨x, rfl, hx, hB2⟩
  replace hB2 := ext_trans (below_alloc w1 _) hB2
  clear hg
  replace hB1 := ext_trans hB1 hB2
  clear hB2
  rw [nb.1, nb.2.1]
  rw [nb.2.2.1] at hx
  replace hx := hx.any
  go_wp2_with fail
  refine (group_calls w2).mono ?_
  rintro e w3 ⟨gv2, rfl, hg, hB3⟩
  replace hx := hx.below hB3
  replace hB1 := ext_trans hB1 hB3
  clear hB3
  go_wp2_with fail
  refine (Is_calls groupL [4, 1, 0] _ _ _ (hg.below RuleR.ok (below_alloc w3 _)) (lit_any w3 [4, 1, 0] (by decide))).mono ?_
  rintro e w4 ⟨rfl, hB4⟩
  replace hB4 := ext_trans (below_alloc w3 _) hB4
  clear hg
  replace hx := hx.below hB4
  replace hB1 := ext_trans hB1 hB4
  clear hB4
  rw [nb.2.2.2.1, nb.2.2.2.2.1]
  go_wp2_with fail
  have hr := Lib.hid (lit_rules1 (n := w4.heap.size + 1 + 1) (by simp) (r := ([2, -1], [2, -1])) ((lit_at w4 _ rfl [2, -1] (by decide)).below (below_alloc _ _)) (lit_at (w4.alloc _) (w4.heap.size + 1) (by simp) [2, -1] (by decide)))
  refine (fxga_calls _).mono ?_
  rintro e w5 ⟨f, rfl, hf, hB5⟩
  replace hr := hr.out.below RuleR.ok hB5
  replace hB5 := ext_trans (ext_alloc (ext_alloc (below_alloc w4 _) _) _) hB5
  replace hx := hx.below hB5
  replace hB1 := ext_trans hB1 hB5
  clear hB5
  go_wp2_with fail
  refine (Form_calls [([2, -1], [2, -1])] fxgaT _ _ w5 (by simpa using hr) hf.any).mono ?_
  rintro e w6 ⟨y, rfl, -, hB6⟩
  clear hr hf
  replace hx := hx.below hB6
  replace hB1 := ext_trans hB1 hB6
  clear hB6
  rw [nb.2.2.2.2.2.1]
  go_wp2_with fail
  have hr := Lib.hid (lit_rules1 (n := w6.heap.size + 1 + 1) (by simp) (r := ([2, -1], [2, 2, -1])) ((lit_at w6 _ rfl [2, -1] (by decide)).below (below_alloc _ _)) (lit_at (w6.alloc _) (w6.heap.size + 1) (by simp) [2, 2, -1] (by decide)))
  refine (fxga_calls _).mono ?_
  rintro e w7 ⟨f, rfl, hf, hB7⟩
  replace hr := hr.out.below RuleR.ok hB7
  replace hB7 := ext_trans (ext_alloc (ext_alloc (below_alloc w6 _) _) _) hB7
  replace hx := hx.below hB7
  replace hB1 := ext_trans hB1 hB7
  clear hB7
  go_wp2_with fail
  refine (Form_calls [([2, -1], [2, 2, -1])] fxgaT _ _ w7 (by simpa using hr) hf.any).mono ?_
  rintro e w8 ⟨y, rfl, -, hB8⟩
  clear hr hf
  replace hx := hx.below hB8
  replace hB1 := ext_trans hB1 hB8
  clear hB8
  rw [nb.2.2.2.2.2.2]
  go_wp2_with fail
  refine (SameTerms_eq [4, 1, 0] _ _ _ (hx.below (below_alloc w8 _)) (lit_any w8 [4, 1, 0] (by decide))).mono ?_
  rintro e w9 ⟨rfl, hB9⟩
  replace hB9 := ext_trans (below_alloc w8 _) hB9
  clear hx
  replace hB1 := ext_trans hB1 hB9
  clear hB9
  go_wp2_with fail
  go_ret
  exact ⟨rfl, hB1⟩

set_option maxRecDepth 100000 in
set_option maxHeartbeats 1000000 in
theorem NormForms_calls (l : Rus) (t : List Int) (v x : Value) (w : World) (hv : IsRules Any w v l) (hx : IsInts Any w x t) : Calls Try.prog 21 #[v, x] w fun e w' => e = .returned (.bool true) ∧ Below w.heap.size w w' := by
  obtain ⟨va, vc, rfl⟩ := hv.isSlice
  obtain ⟨xa, xc, rfl⟩ := hx.isSlice
  go_enter Try.func21, Try.ntmps21
  go_wp2_with fail
  refine (Form_calls l t _ _ w hv hx).mono ?_
  rintro e w1 ⟨y, rfl, hy, hB1⟩
  replace hv := hv.below RuleR.ok hB1
  replace hx := hx.below hB1
  replace hy := hy.any
  go_wp2_with fail
  refine (Is_calls l t _ _ w1 hv hx).mono ?_
  rintro e w2 ⟨rfl, hB2⟩
  replace hv := hv.below RuleR.ok hB2
  replace hx := hx.below hB2
  replace hy := hy.below hB2
  replace hB1 := ext_trans hB1 hB2
  clear hB2
  go_wp2_with fail
  refine (FormOf_calls l t _ _ w2 hv hx).mono ?_
  rintro e w3 ⟨z, rfl, hz, hB3⟩
  replace hv := hv.below RuleR.ok hB3
  replace hx := hx.below hB3
  replace hy := hy.below hB3
  replace hB1 := ext_trans hB1 hB3
  clear hB3
  replace hz := hz.any
  go_wp2_with fail
  refine (IsOf_calls l t _ _ w3 hv hx).mono ?_
  rintro e w4 ⟨rfl, hB4⟩
  clear hv hx
  replace hy := hy.below hB4
  replace hz := hz.below hB4
  replace hB1 := ext_trans hB1 hB4
  clear hB4
  go_wp2_with fail
  refine (normBegun_calls w4).mono ?_
  rintro e w5 ⟨rfl, hB5⟩
  replace hy := hy.below hB5
  replace hz := hz.below hB5
  replace hB1 := ext_trans hB1 hB5
  clear hB5
  go_wp2_with fail
  refine (SameTerms_eq (formT l t) _ _ w5 hy hz).mono ?_
  rintro e w6 ⟨rfl, hB6⟩
  clear hy hz
  replace hB1 := ext_trans hB1 hB6
  clear hB6
  go_wp2_with fail
  go_ret
  exact ⟨rfl, hB1⟩

end Go.Proofs.Ytepddehodmljeaa
