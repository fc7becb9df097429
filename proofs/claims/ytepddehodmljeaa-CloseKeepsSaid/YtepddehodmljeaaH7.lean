/- Walks: closeBegun. -/
import Derived.Test.YtepddehodmljeaaH6
import Derived.Test.YtepddehodmljeaaG9
import Derived.Test.YtepddehodmljeaaYh
namespace Go.Proofs.Ytepddehodmljeaa
open Go.RowKit Go.Maps
abbrev lawsL : List Ru := groupL
def runA : List Ru := [([2, 2, -1], [-1]), ([2, 0], [1])]
def runA3 : Rus := [([2, 2, -1], [-1]), ([2, 0], [1]), ([2, 1], [0])]
theorem cb1 (fb : Fb) : tuE fb rkL [] lawsL = 0 ∧ tuL fb rkL [] lawsL = [([4, 0, -1], [-1])] ∧ (tuP fb rkL [] lawsL).length = 2 := ⟨by kernel_rfl, by kernel_rfl, by kernel_rfl⟩
theorem cb2 (fb : Fb) : rnE fb rkL runA = 0 ∧ rnL fb rkL runA = runA3 ∧ rnN fb rkL runA = 5 := ⟨by kernel_rfl, by kernel_rfl, by kernel_rfl⟩
theorem cb3 (fb : Fb) : tuE fb rkL [] [] = 5 ∧ tuL fb rkL [] [] = [] ∧ tuP fb rkL [] [] = [] := ⟨by kernel_rfl, by kernel_rfl, by kernel_rfl⟩
theorem cb4 (fb : Fb) : rnE fb rkL [([4, -1, -2], [4, -2, -1])] = 6 := by kernel_rfl
theorem cb5 (fb : Fb) : tuE fb [] [] lawsL = 1 := by kernel_rfl

theorem lit_prs3 {w : World} {n : Nat} (hn : n = w.heap.size) {u v u' v' u'' v'' : Value} {r r' r'' : List Int × List Int} (ty : TypeId) (hu : IsInts Any w u r.1) (hv : IsInts Any w v r.2) (hu' : IsInts Any w u' r'.1) (hv' : IsInts Any w v' r'.2)
    (hu'' : IsInts Any w u'' r''.1) (hv'' : IsInts Any w v'' r''.2) : IsRules Any (w.alloc (.cells #[u, v, u', v', u'', v''] ty)) (.slice (some ⟨n, 0, none⟩) 3 3) [r, r', r''] := by
  subst hn
  have hb := below_alloc w (.cells #[u, v, u', v', u'', v''] ty)
  refine ⟨by simp, .inr ⟨by simp, w.heap.size, 0, 3, rfl, by simp, trivial, by simp, [u, v, u', v', u'', v''],
    ⟨[u, v], [u', v', u'', v''], rfl, rfl, ⟨u, v, rfl, hu.below hb, hv.below hb⟩, [u', v'], [u'', v''], rfl, rfl, ⟨u', v', rfl, hu'.below hb, hv'.below hb⟩, [u'', v''], [], rfl, rfl, ⟨u'', v'', rfl, hu''.below hb, hv''.below hb⟩, rfl⟩, fun j x hj => ?_⟩⟩
  rw [World.cell?_alloc_at _ _ _ _ rfl, Nat.zero_add]
  simpa using hj

set_option maxRecDepth 100000 in
theorem laws_calls (w : World) : Calls Try.prog 132 #[] w fun e w' => ∃ v, e = .returned v ∧ IsRules Any w' v lawsL ∧ Below w.heap.size w w' := by
  go_enter Try.func132, Try.ntmps132
  go_wp2_with fail
  go_ret
  refine ⟨_, rfl, lit_prs3 (by simp) 65 ?_ ?_ ?_ ?_ ?_ ?_, ext_alloc (ext_alloc (ext_alloc (ext_alloc (ext_alloc (ext_alloc (below_alloc _ _) _) _) _) _) _) _⟩
  · exact (lit_at w _ rfl [4, 0, -1] (by decide)).below (ext_alloc (ext_alloc (ext_alloc (ext_alloc (below_alloc _ _) _) _) _) _)
  · exact (lit_at (w.alloc _) _ (by simp) [-1] (by decide)).below (ext_alloc (ext_alloc (ext_alloc (below_alloc _ _) _) _) _)
  · exact (lit_at ((w.alloc _).alloc _) _ (by simp) [4, 2, -1, -1] (by decide)).below (ext_alloc (ext_alloc (below_alloc _ _) _) _)
  · exact (lit_at (((w.alloc _).alloc _).alloc _) _ (by simp) [0] (by decide)).below (ext_alloc (below_alloc _ _) _)
  · exact (lit_at ((((w.alloc _).alloc _).alloc _).alloc _) _ (by simp) [4, 4, -1, -2, -3] (by decide)).below (below_alloc _ _)
  · exact lit_at (((((w.alloc _).alloc _).alloc _).alloc _).alloc _) _ (by simp) [4, -1, 4, -2, -3] (by decide)

set_option maxRecDepth 100000 in
set_option maxHeartbeats 4000000 in
theorem closeBegun_calls (w : World) : Calls Try.prog 63 #[] w fun e w' => e = .returned (.bool true) ∧ Below w.heap.size w w' := by
  obtain ⟨fb, hfb⟩ := exists_fb
  go_enter Try.func63, Try.ntmps63
  go_wp2_with fail
  refine (rank_calls w).mono ?_
  rintro e w1 ⟨rv0, rfl, hr0, hB1⟩
  go_wp2_with fail
  refine (laws_calls w1).mono ?_
  rintro e w2 ⟨lv0, rfl, hl0, hB2⟩
  replace hr0 := hr0.below hB2
  replace hB1 := ext_trans hB1 hB2
  clear hB2
  go_wp2_with fail
  refine (Turn_calls hfb rkL [] lawsL _ _ _ w2 hr0 (IsRow.nil _ _) hl0).mono ?_
  rintro e w3 ⟨z0, x0, rfl, hz0, hx0, hB3⟩
  clear hr0 hl0
  replace hB1 := ext_trans hB1 hB3
  clear hB3
  rw [(cb1 fb).1]
  rw [(cb1 fb).2.1] at hz0
  obtain ⟨xa0, xc0, rfl⟩ := hx0.isSlice
  rw [(cb1 fb).2.2]
  clear hx0
  replace hz0 := IsRow.any RuleR.ok hz0
  obtain ⟨pb0, po0, pc0, pu0, px0, rfl, -⟩ := prs_at hz0 (j := 0) (by decide)
  simp only [List.length_cons, List.length_nil, Nat.zero_add] at hz0 ⊢
  go_wp2_with fail
  refine (rank_calls w3).mono ?_
  rintro e w4 ⟨rv1, rfl, hr1, hB4⟩
  replace hz0 := hz0.below RuleR.ok hB4
  replace hB1 := ext_trans hB1 hB4
  clear hB4
  go_wp2_with fail
  refine (Run_calls hfb rkL runA _ _ _ (hr1.below (ext_alloc (ext_alloc (ext_alloc (ext_alloc (below_alloc _ _) _) _) _) _)) (lit_prs2 (n := w4.heap.size + 1 + 1 + 1 + 1) (by simp) (r := ([2, 2, -1], [-1])) (r' := ([2, 0], [1])) 65 ((lit_at w4 _ rfl [2, 2, -1] (by decide)).below (ext_alloc (ext_alloc (below_alloc _ _) _) _)) ((lit_at (w4.alloc _) _ (by simp) [-1] (by decide)).below (ext_alloc (below_alloc _ _) _)) ((lit_at ((w4.alloc _).alloc _) _ (by simp) [2, 0] (by decide)).below (below_alloc _ _)) (lit_at (((w4.alloc _).alloc _).alloc _) _ (by simp) [1] (by decide)))).mono ?_
  rintro e w5 ⟨z1, rfl, hz1, hB5⟩
  replace hB5 := ext_trans (ext_alloc (ext_alloc (ext_alloc (ext_alloc (below_alloc w4 _) _) _) _) _) hB5
  clear hr1
  replace hz0 := hz0.below RuleR.ok hB5
  replace hB1 := ext_trans hB1 hB5
  clear hB5
  rw [(cb2 fb).1, (cb2 fb).2.2]
  rw [(cb2 fb).2.1] at hz1
  replace hz1 := IsRow.any RuleR.ok hz1
  obtain ⟨pb1, po1, pc1, pu1, px1, rfl, -⟩ := prs_at hz1 (j := 0) (by decide)
  replace hz1 : IsRules Any _ (.slice (some ⟨pb1, po1, none⟩) 3 pc1) runA3 := hz1
  rw [show runA3.length = 3 from rfl]
  go_wp2_with fail
  refine (rank_calls w5).mono ?_
  rintro e w6 ⟨rv2, rfl, hr2, hB6⟩
  replace hz0 := hz0.below RuleR.ok hB6
  replace hz1 := hz1.below RuleR.ok hB6
  replace hB1 := ext_trans hB1 hB6
  clear hB6
  go_wp2_with fail
  refine (Turn_calls hfb rkL [] [] _ _ _ w6 hr2 (IsRow.nil _ _) (IsRow.nil _ _)).mono ?_
  rintro e w7 ⟨z2, x2, rfl, hz2, hx2, hB7⟩
  clear hr2
  replace hz0 := hz0.below RuleR.ok hB7
  replace hz1 := hz1.below RuleR.ok hB7
  replace hB1 := ext_trans hB1 hB7
  clear hB7
  rw [(cb3 fb).1]
  clear hz2 hx2
  go_wp2_with fail
  refine (rank_calls w7).mono ?_
  rintro e w8 ⟨rv3, rfl, hr3, hB8⟩
  replace hz0 := hz0.below RuleR.ok hB8
  replace hz1 := hz1.below RuleR.ok hB8
  replace hB1 := ext_trans hB1 hB8
  clear hB8
  go_wp2_with fail
  refine (Run_calls hfb rkL [([4, -1, -2], [4, -2, -1])] _ _ _ (hr3.below (ext_alloc (ext_alloc (below_alloc _ _) _) _)) (lit_prs1 (n := w8.heap.size + 1 + 1) (by simp) (r := ([4, -1, -2], [4, -2, -1])) 65 ((lit_at w8 _ rfl [4, -1, -2] (by decide)).below (below_alloc _ _)) (lit_at (w8.alloc _) _ (by simp) [4, -2, -1] (by decide)))).mono ?_
  rintro e w9 ⟨z3, rfl, hz3, hB9⟩
  replace hB9 := ext_trans (ext_alloc (ext_alloc (below_alloc w8 _) _) _) hB9
  clear hr3
  replace hz0 := hz0.below RuleR.ok hB9
  replace hz1 := hz1.below RuleR.ok hB9
  replace hB1 := ext_trans hB1 hB9
  clear hB9
  rw [cb4 fb]
  clear hz3
  go_wp2_with fail
  refine (laws_calls w9).mono ?_
  rintro e w10 ⟨lv4, rfl, hl4, hB10⟩
  replace hz0 := hz0.below RuleR.ok hB10
  replace hz1 := hz1.below RuleR.ok hB10
  replace hB1 := ext_trans hB1 hB10
  clear hB10
  go_wp2_with fail
  refine (Turn_calls hfb [] [] lawsL _ _ _ w10 (IsInts.nil _ _) (IsRow.nil _ _) hl4).mono ?_
  rintro e w11 ⟨z4, x4, rfl, hz4, hx4, hB11⟩
  clear hl4
  replace hz0 := hz0.below RuleR.ok hB11
  replace hz1 := hz1.below RuleR.ok hB11
  replace hB1 := ext_trans hB1 hB11
  clear hB11
  rw [cb5 fb]
  clear hz4 hx4
  obtain ⟨b00l, o00l, c00l, u00l, x00l, e00l, hcu00l, hcx00l, hu00l, hx00l⟩ := prs_at hz0 (j := 0) (by decide)
  cases e00l
  replace hcu00l : World.cell? _ ⟨pb0, po0, none⟩ = _ := hcu00l
  replace hcx00l : World.cell? _ ⟨pb0, po0 + 1, none⟩ = _ := hcx00l
  go_wp2_with fail
  refine (SameTerms_eq [4, 0, -1] _ _ _ (hu00l.below (below_alloc w11 _)) (lit_any w11 [4, 0, -1] (by decide))).mono ?_
  rintro e w12 ⟨rfl, hB12⟩
  replace hB12 := ext_trans (below_alloc w11 _) hB12
  clear hu00l hx00l hcu00l hcx00l
  replace hz0 := hz0.below RuleR.ok hB12
  replace hz1 := hz1.below RuleR.ok hB12
  replace hB1 := ext_trans hB1 hB12
  clear hB12
  obtain ⟨b10l, o10l, c10l, u10l, x10l, e10l, hcu10l, hcx10l, hu10l, hx10l⟩ := prs_at hz1 (j := 0) (by decide)
  cases e10l
  replace hcu10l : World.cell? _ ⟨pb1, po1, none⟩ = _ := hcu10l
  replace hcx10l : World.cell? _ ⟨pb1, po1 + 1, none⟩ = _ := hcx10l
  rw [show nthR runA3 0 = ([2, 2, -1], [-1]) from rfl] at hu10l hx10l
  go_wp2_with fail
  refine (SameTerms_eq [2, 2, -1] _ _ _ (hu10l.below (below_alloc w12 _)) (lit_any w12 [2, 2, -1] (by decide))).mono ?_
  rintro e w13 ⟨rfl, hB13⟩
  replace hB13 := ext_trans (below_alloc w12 _) hB13
  clear hu10l hx10l hcu10l hcx10l
  replace hz0 := hz0.below RuleR.ok hB13
  replace hz1 := hz1.below RuleR.ok hB13
  replace hB1 := ext_trans hB1 hB13
  clear hB13
  obtain ⟨b11l, o11l, c11l, u11l, x11l, e11l, hcu11l, hcx11l, hu11l, hx11l⟩ := prs_at hz1 (j := 1) (by decide)
  cases e11l
  replace hcu11l : World.cell? _ ⟨pb1, po1 + 2, none⟩ = _ := hcu11l
  replace hcx11l : World.cell? _ ⟨pb1, po1 + 3, none⟩ = _ := hcx11l
  rw [show nthR runA3 1 = ([2, 0], [1]) from rfl] at hu11l hx11l
  go_wp2_with fail
  refine (SameTerms_eq [2, 0] _ _ _ (hu11l.below (below_alloc w13 _)) (lit_any w13 [2, 0] (by decide))).mono ?_
  rintro e w14 ⟨rfl, hB14⟩
  replace hB14 := ext_trans (below_alloc w13 _) hB14
  clear hu11l hx11l hcu11l hcx11l
  replace hz0 := hz0.below RuleR.ok hB14
  replace hz1 := hz1.below RuleR.ok hB14
  replace hB1 := ext_trans hB1 hB14
  clear hB14
  obtain ⟨b11r, o11r, c11r, u11r, x11r, e11r, hcu11r, hcx11r, hu11r, hx11r⟩ := prs_at hz1 (j := 1) (by decide)
  cases e11r
  replace hcu11r : World.cell? _ ⟨pb1, po1 + 2, none⟩ = _ := hcu11r
  replace hcx11r : World.cell? _ ⟨pb1, po1 + 3, none⟩ = _ := hcx11r
  rw [show nthR runA3 1 = ([2, 0], [1]) from rfl] at hu11r hx11r
  go_wp2_with fail
  refine (SameTerms_eq [1] _ _ _ (hx11r.below (below_alloc w14 _)) (lit_any w14 [1] (by decide))).mono ?_
  rintro e w15 ⟨rfl, hB15⟩
  replace hB15 := ext_trans (below_alloc w14 _) hB15
  clear hu11r hx11r hcu11r hcx11r
  replace hz0 := hz0.below RuleR.ok hB15
  replace hz1 := hz1.below RuleR.ok hB15
  replace hB1 := ext_trans hB1 hB15
  clear hB15
  obtain ⟨b12l, o12l, c12l, u12l, x12l, e12l, hcu12l, hcx12l, hu12l, hx12l⟩ := prs_at hz1 (j := 2) (by decide)
  cases e12l
  replace hcu12l : World.cell? _ ⟨pb1, po1 + 4, none⟩ = _ := hcu12l
  replace hcx12l : World.cell? _ ⟨pb1, po1 + 5, none⟩ = _ := hcx12l
  rw [show nthR runA3 2 = ([2, 1], [0]) from rfl] at hu12l hx12l
  go_wp2_with fail
  refine (SameTerms_eq [2, 1] _ _ _ (hu12l.below (below_alloc w15 _)) (lit_any w15 [2, 1] (by decide))).mono ?_
  rintro e w16 ⟨rfl, hB16⟩
  replace hB16 := ext_trans (below_alloc w15 _) hB16
  clear hu12l hx12l hcu12l hcx12l
  replace hz0 := hz0.below RuleR.ok hB16
  replace hz1 := hz1.below RuleR.ok hB16
  replace hB1 := ext_trans hB1 hB16
  clear hB16
  obtain ⟨b12r, o12r, c12r, u12r, x12r, e12r, hcu12r, hcx12r, hu12r, hx12r⟩ := prs_at hz1 (j := 2) (by decide)
  cases e12r
  replace hcu12r : World.cell? _ ⟨pb1, po1 + 4, none⟩ = _ := hcu12r
  replace hcx12r : World.cell? _ ⟨pb1, po1 + 5, none⟩ = _ := hcx12r
  rw [show nthR runA3 2 = ([2, 1], [0]) from rfl] at hu12r hx12r
  go_wp2_with fail
  refine (SameTerms_eq [0] _ _ _ (hx12r.below (below_alloc w16 _)) (lit_any w16 [0] (by decide))).mono ?_
  rintro e w17 ⟨rfl, hB17⟩
  replace hB17 := ext_trans (below_alloc w16 _) hB17
  clear hu12r hx12r hcu12r hcx12r
  replace hz0 := hz0.below RuleR.ok hB17
  replace hz1 := hz1.below RuleR.ok hB17
  replace hB1 := ext_trans hB1 hB17
  clear hB17
  go_wp2_with fail
  go_ret
  exact ⟨rfl, hB1⟩

end Go.Proofs.Ytepddehodmljeaa
