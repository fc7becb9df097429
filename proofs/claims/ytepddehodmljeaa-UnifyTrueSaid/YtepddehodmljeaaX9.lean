/- Walks: unifyBegun; UnifyTrue, UnifyMost. -/
import Derived.Test.YtepddehodmljeaaX8
namespace Go.Proofs.Ytepddehodmljeaa
open Go.RowKit Go.Maps

def ubS : List (List Int) := [[2, -2], [-2], [2, -2], [-4], [-5], [-6], [-7], [-8]]
def ubT : List (List Int) := [[-1], [-2], [-2], [-4], [-2], [-6], [-7], [-8]]
theorem ub1 (fb : Fb) : chk2 [4, -1, 2, -2] [4, -3, -1] = 0 ∧ solX fb [(tmOf [4, -1, 2, -2], tmOf [4, -3, -1])] = (ubS, true, 0) := ⟨by decide +kernel, by kernel_rfl⟩
theorem ub2 (fb : Fb) : chk2 [-1] [2, -1] = 0 ∧ solX fb [(tmOf [-1], tmOf [2, -1])] = ([], false, 0) := ⟨by decide +kernel, by kernel_rfl⟩
theorem ub3 (fb : Fb) : solX fb (prT [([-3], [-2]), ([-5], [-3])]) = (ubT, true, 0) := by kernel_rfl
theorem ub4 : chk2 [9] [0] = 3 := by decide +kernel
theorem rt2 : ∀ p ∈ prT [([-3], [-2]), ([-5], [-3])], RtP p := by
  intro p hp
  simp [prT] at hp
  rcases hp with rfl | rfl <;> exact rtP_of (by decide +kernel) (by decide +kernel)
theorem solve_is {fb : Fb} (hfb : FbOk fb) {l : List (Tm × Tm)} (hl : ∀ p ∈ l, RtP p) {s : List (List Int)} {is : Bool} {e : Int} (h : SolveR l s is e) {r : Sln} (hr : solX fb l = r) : s = r.1 ∧ is = r.2.1 ∧ e = r.2.2 := by
  rw [← hr]; exact solX_eq hfb hl h
theorem meet_is {fb : Fb} (hfb : FbOk fb) {a b : List Int} {s : List (List Int)} {is : Bool} {e : Int} (h : MeetR a b s is e) {r : Sln} (hr : chk2 a b = 0 ∧ solX fb [(tmOf a, tmOf b)] = r) : s = r.1 ∧ is = r.2.1 ∧ e = r.2.2 := by
  rw [MeetR, if_pos hr.1] at h
  exact solve_is hfb (fun p hp => by simp at hp; subst hp; exact rtP_of (chk2_zero hr.1).1 (chk2_zero hr.1).2) h hr.2
theorem meet_no {a b : List Int} {s : List (List Int)} {is : Bool} {e : Int} (h : MeetR a b s is e) (hn : chk2 a b = 3) : s = [] ∧ is = false ∧ e = 3 := by
  rw [MeetR, if_neg (by rw [hn]; decide), hn] at h
  exact h

theorem mk41 (w : World) : (Instr.makeSlice 50 (.int .i64 41) (.int .i64 41)).run Try.prog w = .ok (.slice (some ⟨w.heap.size, 0, none⟩) 41 41) (w.alloc (.cells (Array.replicate 82 (.slice none 0 0)) 65)) := by kernel_rfl

set_option maxRecDepth 100000 in
set_option maxHeartbeats 4000000 in
theorem unifyBegun_calls (w : World) : Calls Try.prog 82 #[] w fun e w' => e = .returned (.bool true) ∧ Below w.heap.size w w' := by
  obtain ⟨fb, hfb⟩ := exists_fb
  have hmk := mk41
  go_enter Try.func82, Try.ntmps82
  go_wp2_with fail
  refine (Meet_calls [4, -1, 2, -2] [4, -3, -1] _ _ _ ((lit_any w [4, -1, 2, -2] (by decide)).below (below_alloc _ _)) (lit_next w _ [4, -3, -1] (by decide))).mono ?_
  rintro e w1 ⟨s, is, er, xs, rfl, hm, hs, hB1⟩
  replace hB1 := ext_trans (ext_alloc (below_alloc w _) _) hB1
  obtain ⟨rfl, rfl, rfl⟩ := meet_is hfb hm (ub1 fb)
  clear hm
  replace hs := hs.any TermR.ok
  obtain ⟨sb, so, sc, -, rfl, -, -⟩ := row_cell hs (j := 0) (by decide)
  rw [show ubS.length = 8 from rfl] at hs ⊢
  go_wp2_with fail
  refine (Meet_calls [-1] [2, -1] _ _ _ ((lit_any w1 [-1] (by decide)).below (below_alloc _ _)) (lit_next w1 _ [2, -1] (by decide))).mono ?_
  rintro e w2 ⟨s, is, er, x0, rfl, hm, hx, hB2⟩
  replace hB2 := ext_trans (ext_alloc (below_alloc w1 _) _) hB2
  replace hs := hs.below TermR.ok hB2
  replace hB1 := ext_trans hB1 hB2
  clear hB2
  obtain ⟨rfl, rfl, rfl⟩ := meet_is hfb hm (ub2 fb)
  clear hm
  clear hx
  go_wp2_with fail
  refine (Uall_ok [([-3], [-2]), ([-5], [-3])] _ _ (lit_prs2 (n := w2.heap.size + 1 + 1 + 1 + 1) (by simp) (r := ([-3], [-2])) (r' := ([-5], [-3])) 65 ((lit_at w2 _ rfl [-3] (by decide)).below (ext_alloc (ext_alloc (below_alloc _ _) _) _)) ((lit_at (w2.alloc _) _ (by simp) [-2] (by decide)).below (ext_alloc (below_alloc _ _) _)) ((lit_at ((w2.alloc _).alloc _) _ (by simp) [-5] (by decide)).below (below_alloc _ _)) (lit_at (((w2.alloc _).alloc _).alloc _) _ (by simp) [-3] (by decide))) (by decide) (by decide)).mono ?_
  rintro e w3 ⟨s, is, er, xt, rfl, hm, ht, hB3⟩
  replace hB3 := ext_trans (ext_alloc (ext_alloc (ext_alloc (ext_alloc (below_alloc w2 _) _) _) _) _) hB3
  replace hs := hs.below TermR.ok hB3
  replace hB1 := ext_trans hB1 hB3
  clear hB3
  obtain ⟨rfl, rfl, rfl⟩ := solve_is hfb rt2 hm (ub3 fb)
  clear hm
  replace ht := ht.any TermR.ok
  obtain ⟨tb, tq, tc, -, rfl, -, -⟩ := row_cell ht (j := 0) (by decide)
  rw [show ubT.length = 8 from rfl] at ht ⊢
  go_wp2_with fail
  refine (Meet_calls [9] [0] _ _ _ ((lit_any w3 [9] (by decide)).below (below_alloc _ _)) (lit_next w3 _ [0] (by decide))).mono ?_
  rintro e w4 ⟨s, is, er, x3, rfl, hm, hx, hB4⟩
  replace hB4 := ext_trans (ext_alloc (below_alloc w3 _) _) hB4
  replace hs := hs.below TermR.ok hB4
  replace ht := ht.below TermR.ok hB4
  replace hB1 := ext_trans hB1 hB4
  clear hB4
  obtain ⟨rfl, rfl, rfl⟩ := meet_no hm ub4
  clear hm hx
  go_wp2_with fail
  refine (pure_below (Uall_many _ _ _ _ (by decide))).mono ?_
  rintro e w5 ⟨rfl, hB5⟩
  replace hB5 := ext_trans (below_alloc w4 _) hB5
  replace hs := hs.below TermR.ok hB5
  replace ht := ht.below TermR.ok hB5
  replace hB1 := ext_trans hB1 hB5
  clear hB5
  obtain ⟨b0, o0, c0, u0, e0, hc0, hu0⟩ := row_cell hs (j := 0) (by decide)
  cases e0
  rw [Nat.add_zero] at hc0
  go_wp2_with fail
  refine (SameTerms_eq [2, -2] _ _ _ (hu0.below (below_alloc w5 _)) (lit_any w5 [2, -2] (by decide))).mono ?_
  rintro e w6 ⟨rfl, hB6⟩
  replace hB6 := ext_trans (below_alloc w5 _) hB6
  clear hu0 hc0
  replace hs := hs.below TermR.ok hB6
  replace ht := ht.below TermR.ok hB6
  replace hB1 := ext_trans hB1 hB6
  clear hB6
  obtain ⟨b1, o1, c1, u1, e1, hc1, hu1⟩ := row_cell hs (j := 2) (by decide)
  cases e1
  go_wp2_with fail
  refine (SameTerms_eq [2, -2] _ _ _ (hu1.below (below_alloc w6 _)) (lit_any w6 [2, -2] (by decide))).mono ?_
  rintro e w7 ⟨rfl, hB7⟩
  replace hB7 := ext_trans (below_alloc w6 _) hB7
  clear hu1 hc1
  replace hs := hs.below TermR.ok hB7
  replace ht := ht.below TermR.ok hB7
  replace hB1 := ext_trans hB1 hB7
  clear hB7
  obtain ⟨b2, o2, c2, u2, e2, hc2, hu2⟩ := row_cell hs (j := 1) (by decide)
  cases e2
  go_wp2_with fail
  refine (SameTerms_eq [-2] _ _ _ (hu2.below (below_alloc w7 _)) (lit_any w7 [-2] (by decide))).mono ?_
  rintro e w8 ⟨rfl, hB8⟩
  replace hB8 := ext_trans (below_alloc w7 _) hB8
  clear hu2 hc2
  replace hs := hs.below TermR.ok hB8
  replace ht := ht.below TermR.ok hB8
  replace hB1 := ext_trans hB1 hB8
  clear hB8
  obtain ⟨b3, o3, c3, u3, e3, hc3, hu3⟩ := row_cell ht (j := 2) (by decide)
  cases e3
  go_wp2_with fail
  refine (SameTerms_eq [-2] _ _ _ (hu3.below (below_alloc w8 _)) (lit_any w8 [-2] (by decide))).mono ?_
  rintro e w9 ⟨rfl, hB9⟩
  replace hB9 := ext_trans (below_alloc w8 _) hB9
  clear hu3 hc3
  replace hs := hs.below TermR.ok hB9
  replace ht := ht.below TermR.ok hB9
  replace hB1 := ext_trans hB1 hB9
  clear hB9
  obtain ⟨b4, o4, c4, u4, e4, hc4, hu4⟩ := row_cell ht (j := 4) (by decide)
  cases e4
  go_wp2_with fail
  refine (SameTerms_eq [-2] _ _ _ (hu4.below (below_alloc w9 _)) (lit_any w9 [-2] (by decide))).mono ?_
  rintro e w10 ⟨rfl, hB10⟩
  replace hB10 := ext_trans (below_alloc w9 _) hB10
  clear hu4 hc4
  replace hs := hs.below TermR.ok hB10
  replace ht := ht.below TermR.ok hB10
  replace hB1 := ext_trans hB1 hB10
  clear hB10
  go_wp2_with fail
  go_ret
  exact ⟨rfl, hB1⟩


end Go.Proofs.Ytepddehodmljeaa
