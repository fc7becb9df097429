/- Walks: match.Over; matchBegun; MatchTells. -/
import Derived.Test.YtepddehodmljeaaM9
namespace Go.Proofs.Ytepddehodmljeaa
open Go.RowKit Go.Maps

theorem Over_calls (t p : List Int) (u v : Value) (w : World) (hu : IsInts Any w u t) (hv : IsInts Any w v p) :
    Calls Try.prog 49 #[u, v] w fun e w' => ∃ x, e = .returned (.tuple #[x, .int .i64 (chk2 t p)]) ∧ IsInts (Fr w.heap.size) w' x (overT t p) ∧ Below w.heap.size w w' := by
  by_cases h : chk2 t p = 0
  · have hr : overT t p = ovr t p t.length := by rw [overT, if_pos h]
    rw [hr, h]
    exact Over_ok t p u v w hu hv h
  · have hr : Hid (overT t p = []) := by rw [Hid, overT, if_neg h]
    have h' : (chk2 t p != 0) = true := by simpa using h
    have h1 := Lib.hid (Both_calls t p u v w hu hv)
    clear hu hv h
    go_enter Try.func49, Try.ntmps49
    go_wp2_with fail
    refine h1.out.mono ?_
    rintro e w' ⟨rfl, rfl⟩
    clear h1
    go_wp2_with fail
    go_ret2
    exact ⟨.slice none 0 0, rfl, by rw [hr.out]; exact .nil _ _, .refl _ _⟩

theorem IsInts.cells {S : Blk} {w : World} {v : Value} {t : List Int} (h : IsInts S w v t) (hn : t ≠ []) : ∃ b o c, v = .slice (some ⟨b, o, none⟩) t.length c := by
  obtain ⟨-, ⟨h, -⟩ | ⟨-, b, o, c, h, -⟩⟩ := h
  · exact absurd h hn
  · exact ⟨b, o, c, h⟩
theorem IsInts.cell {S : Blk} {w : World} {b o n c : Nat} {t : List Int} (h : IsInts S w (.slice (some ⟨b, o, none⟩) n c) t) {j : Nat} (hj : j < t.length) : w.cell? ⟨b, o + j, none⟩ = some (.int .i64 (nth t j)) := by
  obtain ⟨-, ⟨h, -⟩ | ⟨-, b', o', c', e, -, -, -, hc⟩⟩ := h
  · rw [h] at hj; simp at hj
  · cases e; exact hc j hj

theorem lit_next (w : World) (o : Obj) (xs : List Int) (hl : xs.length ≤ 1000) : IsInts Any ((w.alloc o).alloc (.cells (xs.map (Value.int .i64)).toArray 3)) (.slice (some ⟨w.heap.size + 1, 0, none⟩) xs.length xs.length) xs := by
  have := lit_any (w.alloc o) xs hl
  rwa [World.size_alloc] at this

def mbS : List (List Int) := [[3, 0], [-1], [-3], [-4], [-5], [-6], [-7], [-8]]
theorem mb : fitB [4, -1, 2, -2] [4, 3, 0, 2, -1] = true ∧ chk2 [4, -1, 2, -2] [4, 3, 0, 2, -1] = 0 ∧ fitT [4, -1, 2, -2] [4, 3, 0, 2, -1] = mbS ∧ fitB [4, -1, -1] [4, 0, 1] = false ∧ chk2 [4, -1, -1] [4, 0, 1] = 0 ∧
    chk2 [4, 2, 2, 0, 2, 1] [2, -3] = 0 ∧ overT [4, 2, 2, 0, 2, 1] [2, -3] = [1, 2, 4] ∧ fitB [] fxgaT = false ∧ chk2 [] fxgaT = 1 := by decide +kernel

set_option maxRecDepth 100000 in
set_option maxHeartbeats 1000000 in
theorem matchBegun_calls (w : World) : Calls Try.prog 48 #[] w fun e w' => e = .returned (.bool true) ∧ Below w.heap.size w w' := by
  go_enter Try.func48, Try.ntmps48
  go_wp2_with fail
  refine (Fit_calls [4, -1, 2, -2] [4, 3, 0, 2, -1] _ _ _ ((lit_any w [4, -1, 2, -2] (by decide)).below (below_alloc _ _)) (lit_next w _ [4, 3, 0, 2, -1] (by decide))).mono ?_
  rintro e w1 ⟨s, rfl, hs, hB1⟩
  replace hB1 := ext_trans (ext_alloc (below_alloc w _) _) hB1
  rw [mb.1, mb.2.1]
  rw [mb.2.2.1] at hs
  replace hs := hs.any TermR.ok
  obtain ⟨sb, so, sc, -, rfl, -, -⟩ := row_cell hs (j := 0) (by decide)
  rw [show mbS.length = 8 from rfl] at hs ⊢
  go_wp2_with fail
  refine (Fit_calls [4, -1, -1] [4, 0, 1] _ _ _ ((lit_any w1 [4, -1, -1] (by decide)).below (below_alloc _ _)) (lit_next w1 _ [4, 0, 1] (by decide))).mono ?_
  rintro e w2 ⟨s2, rfl, -, hB2⟩
  replace hB2 := ext_trans (ext_alloc (below_alloc w1 _) _) hB2
  replace hs := hs.below TermR.ok hB2
  replace hB1 := ext_trans hB1 hB2
  clear hB2
  rw [mb.2.2.2.1, mb.2.2.2.2.1]
  go_wp2_with fail
  refine (Over_calls [4, 2, 2, 0, 2, 1] [2, -3] _ _ _ ((lit_any w2 [4, 2, 2, 0, 2, 1] (by decide)).below (below_alloc _ _)) (lit_next w2 _ [2, -3] (by decide))).mono ?_
  rintro e w3 ⟨l, rfl, hl, hB3⟩
  replace hB3 := ext_trans (ext_alloc (below_alloc w2 _) _) hB3
  replace hs := hs.below TermR.ok hB3
  replace hB1 := ext_trans hB1 hB3
  clear hB3
  rw [mb.2.2.2.2.2.1]
  rw [mb.2.2.2.2.2.2.1] at hl
  replace hl := hl.any
  obtain ⟨lb, lo, lc, rfl⟩ := hl.cells (by decide)
  go_wp2_with fail
  refine (fxga_calls w3).mono ?_
  rintro e w4 ⟨f, rfl, hf, hB4⟩
  replace hs := hs.below TermR.ok hB4
  replace hl := hl.below hB4
  replace hB1 := ext_trans hB1 hB4
  clear hB4
  go_wp2_with fail
  refine (Fit_calls [] fxgaT _ _ w4 (.nil _ _) hf.any).mono ?_
  rintro e w5 ⟨s3, rfl, -, hB5⟩
  clear hf
  replace hs := hs.below TermR.ok hB5
  replace hl := hl.below hB5
  replace hB1 := ext_trans hB1 hB5
  clear hB5
  rw [mb.2.2.2.2.2.2.2.1, mb.2.2.2.2.2.2.2.2]
  obtain ⟨b0, o0, c0, u0, e0, hc0, hu0⟩ := row_cell hs (j := 0) (by decide)
  cases e0
  rw [Nat.add_zero] at hc0
  go_wp2_with fail
  refine (SameTerms_eq [3, 0] _ _ _ (hu0.below (below_alloc w5 _)) (lit_any w5 [3, 0] (by decide))).mono ?_
  rintro e w6 ⟨rfl, hB6⟩
  replace hB6 := ext_trans (below_alloc w5 _) hB6
  clear hu0 hc0
  replace hs := hs.below TermR.ok hB6
  replace hl := hl.below hB6
  replace hB1 := ext_trans hB1 hB6
  clear hB6
  obtain ⟨b1, o1, c1, u1, e1, hc1, hu1⟩ := row_cell hs (j := 1) (by decide)
  cases e1
  go_wp2_with fail
  refine (SameTerms_eq [-1] _ _ _ (hu1.below (below_alloc w6 _)) (lit_any w6 [-1] (by decide))).mono ?_
  rintro e w7 ⟨rfl, hB7⟩
  replace hB7 := ext_trans (below_alloc w6 _) hB7
  clear hu1 hc1
  replace hs := hs.below TermR.ok hB7
  replace hl := hl.below hB7
  replace hB1 := ext_trans hB1 hB7
  clear hB7
  obtain ⟨b2, o2, c2, u2, e2, hc2, hu2⟩ := row_cell hs (j := 2) (by decide)
  cases e2
  go_wp2_with fail
  refine (SameTerms_eq [-3] _ _ _ (hu2.below (below_alloc w7 _)) (lit_any w7 [-3] (by decide))).mono ?_
  rintro e w8 ⟨rfl, hB8⟩
  replace hB8 := ext_trans (below_alloc w7 _) hB8
  clear hu2 hc2
  replace hs := hs.below TermR.ok hB8
  replace hl := hl.below hB8
  replace hB1 := ext_trans hB1 hB8
  clear hB8
  have hl0 := hl.cell (j := 0) (by decide)
  have hl1 := hl.cell (j := 1) (by decide)
  have hl2 := hl.cell (j := 2) (by decide)
  rw [Nat.add_zero] at hl0
  simp only [nth, List.getD_cons_zero, List.getD_cons_succ] at hl0 hl1 hl2
  go_wp2_with fail
  go_ret
  exact ⟨rfl, hB1⟩

set_option maxRecDepth 100000 in
set_option maxHeartbeats 1000000 in
theorem MatchTells_calls (p t : List Int) (u v : Value) (w : World) (hu : IsInts Any w u p) (hv : IsInts Any w v t) : Calls Try.prog 6 #[u, v] w fun e w' => e = .returned (.bool true) ∧ Below w.heap.size w w' := by
  obtain ⟨ua, uc, rfl⟩ := hu.isSlice
  obtain ⟨va, vc, rfl⟩ := hv.isSlice
  go_enter Try.func6, Try.ntmps6
  go_wp2_with fail
  refine (Fit_calls p t _ _ w hu hv).mono ?_
  rintro e w1 ⟨x, rfl, hx, hB1⟩
  replace hu := hu.below hB1
  replace hv := hv.below hB1
  replace hx := hx.any TermR.ok
  go_wp2_with fail
  refine (FitOf_calls p t _ _ w1 hu hv).mono ?_
  rintro e w2 ⟨y, rfl, hy, hB2⟩
  clear hu hv
  replace hx := hx.below TermR.ok hB2
  replace hB1 := ext_trans hB1 hB2
  clear hB2
  replace hy := hy.any TermR.ok
  go_wp2_with fail
  refine (matchBegun_calls w2).mono ?_
  rintro e w3 ⟨rfl, hB3⟩
  replace hx := hx.below TermR.ok hB3
  replace hy := hy.below TermR.ok hB3
  replace hB1 := ext_trans hB1 hB3
  clear hB3
  go_wp2_with fail
  refine (SameSubs_eq (fitT p t) _ _ w3 hx hy).mono ?_
  rintro e w4 ⟨rfl, hB4⟩
  clear hx hy
  replace hB1 := ext_trans hB1 hB4
  clear hB4
  go_wp2_with fail
  go_ret
  exact ⟨rfl, hB1⟩

end Go.Proofs.Ytepddehodmljeaa
