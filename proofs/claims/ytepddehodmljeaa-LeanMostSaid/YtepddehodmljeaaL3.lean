/- Walks: leanBegun. -/
import Derived.Test.YtepddehodmljeaaL2
import Derived.Test.YtepddehodmljeaaN3
namespace Go.Proofs.Ytepddehodmljeaa
open Go.RowKit Go.Maps

def nthN (l : List Ln) (j : Nat) : Ln := l.getD j (0, 0, [], [])
theorem nthN_eq {l : List Ln} {j : Nat} (h : j < l.length) : nthN l j = l[j] := by simp [nthN, h]
theorem nthN_mem {l : List Ln} {j : Nat} (h : j < l.length) : nthN l j ∈ l := by rw [nthN_eq h]; exact List.getElem_mem h
theorem leans_cell {S : Blk} {w : World} {v : Value} {l : List Ln} (h : IsLeans S w v l) {j : Nat} (hj : j < l.length) :
    ∃ b o c u x, v = .slice (some ⟨b, o, none⟩) l.length c ∧ b < w.heap.size ∧ w.cell? ⟨b, o + j * 4, none⟩ = some (.int .i64 (nthN l j).1) ∧ w.cell? ⟨b, o + j * 4 + 1, none⟩ = some (.int .i64 (nthN l j).2.1) ∧
      w.cell? ⟨b, o + j * 4 + 2, none⟩ = some u ∧ w.cell? ⟨b, o + j * 4 + 3, none⟩ = some x ∧ IsTerms S w u (nthN l j).2.2.1 ∧ IsInts S w x (nthN l j).2.2.2 := by
  obtain ⟨hl, ⟨rfl, -⟩ | ⟨hne, b, o, c, rfl, -, hS, hlt, cs, he, hc⟩⟩ := h
  · simp at hj
  obtain ⟨us, hul, hget, u, x, rfl, hu, hx⟩ := he.get j hj
  refine ⟨b, o, c, u, x, rfl, hlt, ?_, ?_, ?_, ?_, by rw [nthN_eq hj]; exact hu, by rw [nthN_eq hj]; exact hx⟩
  · have := hget 0 (by omega)
    rw [nthN_eq hj, hc (j * 4) _ (by simpa using this)]
  · have := hget 1 (by omega)
    rw [nthN_eq hj, Nat.add_assoc, hc (j * 4 + 1) _ (by simpa using this)]
  · have := hget 2 (by omega)
    rw [Nat.add_assoc, hc (j * 4 + 2) _ (by simpa using this)]
  · have := hget 3 (by omega)
    rw [Nat.add_assoc, hc (j * 4 + 3) _ (by simpa using this)]

def lean3 : List Ln := [(0, 0, [[0], [-2], [-3], [-4], [0], [-6], [-7], [-8]], [0]), (1, 0, [[2, 0], [-2], [-3], [-4], [0], [-6], [-7], [-8]], [0]), (2, 0, [[4, -5, -6], [-2], [-3], [-4], [-5], [-6], [0], [-8]], [4, -5, 4, -6, 0])]
theorem lb1 (fb : Fb) : lnE fb groupL [4, -1, 0] = 0 := by kernel_rfl
theorem lb2 (fb : Fb) : lnP fb groupL [4, -1, 0] = lean3 := by kernel_rfl
theorem lb3 (fb : Fb) : lnE fb groupL [2, -5] = 3 := by kernel_rfl
theorem lb_pick {ls L M : List Ln} (h : ls.Perm L ∧ ((L.length < 20 ∧ ∀ i (h : i + 1 < L.length), L[i].2.1 ≤ L[i + 1].2.1) → ls = L)) (e : L = M) (h1 : M.length < 20) (h2 : ∀ i (h : i + 1 < M.length), M[i].2.1 ≤ M[i + 1].2.1) : ls = M := by
  subst e
  exact h.2 ⟨h1, h2⟩
theorem lb_ok {fb : Fb} {ls : List Ln} (h : LnOk fb groupL [4, -1, 0] ls) : ls = lean3 := by
  unfold LnOk at h
  rw [if_pos (lb1 fb)] at h
  exact lb_pick h (lb2 fb) (by decide) fun i h => by
    rcases (by simp [lean3] at h; omega : i = 0 ∨ i = 1) with rfl | rfl <;> exact Nat.le_refl _

set_option maxRecDepth 100000 in
set_option maxHeartbeats 4000000 in
theorem leanBegun_calls (hsort : SortA) (w : World) : Calls Try.prog 98 #[] w fun e w' => e = .returned (.bool true) ∧ Below w.heap.size w w' := by
  obtain ⟨fb, hfb⟩ := exists_fb
  have HS := Lib.hid hsort
  go_enter Try.func98, Try.ntmps98
  go_wp2_with fail
  refine (group_calls w).mono ?_
  rintro e w1 ⟨gv0, rfl, hg0, hB1⟩
  have hA1 := Lib.hid (LAll_calls hfb hsort groupL [4, -1, 0] gv0 _ (w1.alloc (.cells #[.int .i64 4, .int .i64 (-1), .int .i64 0] 3)) (hg0.below RuleR.ok (below_alloc _ _)) (lit_any w1 [4, -1, 0] (by decide)))
  have HB1 := Lib.hid (ext_trans hB1 (below_alloc w1 (.cells #[.int .i64 4, .int .i64 (-1), .int .i64 0] 3)))
  clear hg0 hB1
  go_wp2_with fail
  refine hA1.out.mono ?_
  rintro e w2 ⟨y, ls, rfl, hls, hy, hB2⟩
  rw [lb_ok hls] at hy
  rw [lb1 fb]
  have HB2 := Lib.hid (ext_trans HB1.out hB2)
  obtain ⟨b, o, c, u0, x0, rfl, hbl, c00, c01, c02, c03, t0, i0⟩ := leans_cell (IsRow.any LeanR.ok hy) (j := 0) (by decide)
  obtain ⟨_, _, _, u1, x1, e1, -, c10, -, c12, c13, t1, i1⟩ := leans_cell (IsRow.any LeanR.ok hy) (j := 1) (by decide)
  cases e1
  obtain ⟨_, _, _, u2, x2, e1, -, c20, -, -, -, -, -⟩ := leans_cell (IsRow.any LeanR.ok hy) (j := 2) (by decide)
  cases e1
  have n0 : nthN lean3 0 = (0, 0, [[0], [-2], [-3], [-4], [0], [-6], [-7], [-8]], [0]) := rfl
  have n1 : nthN lean3 1 = (1, 0, [[2, 0], [-2], [-3], [-4], [0], [-6], [-7], [-8]], [0]) := rfl
  have n2 : nthN lean3 2 = (2, 0, [[4, -5, -6], [-2], [-3], [-4], [-5], [-6], [0], [-8]], [4, -5, 4, -6, 0]) := rfl
  rw [n0] at c00 c01 t0 i0
  rw [n1] at c10 t1 i1
  rw [n2] at c20
  obtain ⟨sb0, so0, sc0, sv0, rfl, hs0, hsi0⟩ := row_cell t0 (j := 0) (by decide)
  obtain ⟨sb1, so1, sc1, sv1, rfl, hs1, hsi1⟩ := row_cell t1 (j := 0) (by decide)
  obtain ⟨sv01, sv02, rfl⟩ := hsi0.isSlice
  obtain ⟨sv11, sv12, rfl⟩ := hsi1.isSlice
  obtain ⟨xv01, xv02, rfl⟩ := i0.isSlice
  obtain ⟨xv11, xv12, rfl⟩ := i1.isSlice
  have HK : Hid (∀ W, Below w2.heap.size w2 W → W.cell? ⟨b, o, none⟩ = some (.int .i64 0) ∧ W.cell? ⟨b, o + 1, none⟩ = some (.int .i64 0) ∧ W.cell? ⟨b, o + 2, none⟩ = some (.slice (some ⟨sb0, so0, none⟩) 8 sc0) ∧ W.cell? ⟨b, o + 3, none⟩ = some (.slice xv01 1 xv02) ∧
      W.cell? ⟨b, o + 4, none⟩ = some (.int .i64 1) ∧ W.cell? ⟨b, o + 6, none⟩ = some (.slice (some ⟨sb1, so1, none⟩) 8 sc1) ∧ W.cell? ⟨b, o + 7, none⟩ = some (.slice xv11 1 xv12) ∧ W.cell? ⟨b, o + 8, none⟩ = some (.int .i64 2) ∧
      W.cell? ⟨sb0, so0, none⟩ = some (.slice sv01 1 sv02) ∧ W.cell? ⟨sb1, so1, none⟩ = some (.slice sv11 2 sv12)) := fun W hb => by
    have hl0 : sb0 < w2.heap.size := World.block_lt_of_cell? _ _ hs0
    have hl1 : sb1 < w2.heap.size := World.block_lt_of_cell? _ _ hs1
    have cb : ∀ k v, w2.cell? ⟨b, k, none⟩ = some v → W.cell? ⟨b, k, none⟩ = some v := fun k v h => (hb.cell (p := ⟨b, k, none⟩) hbl).trans h
    exact ⟨cb _ _ c00, cb _ _ c01, cb _ _ c02, cb _ _ c03, cb _ _ c10, cb _ _ c12, cb _ _ c13, cb _ _ c20, (hb.cell (p := ⟨sb0, so0, none⟩) hl0).trans hs0, (hb.cell (p := ⟨sb1, so1, none⟩) hl1).trans hs1⟩
  have HV : Hid (IsInts Any w2 (.slice sv01 1 sv02) [0] ∧ IsInts Any w2 (.slice sv11 2 sv12) [2, 0] ∧ IsInts Any w2 (.slice xv01 1 xv02) [0] ∧ IsInts Any w2 (.slice xv11 1 xv12) [0]) := ⟨hsi0, hsi1, i0, i1⟩
  clear hy hB2 hls hA1 HB1 t0 t1 c00 c01 c02 c03 c10 c12 c13 c20 hs0 hs1 hsi0 hsi1 i0 i1 n0 n1 n2 hbl
  have hl3 : ((lean3.length : Nat) : Int) = 3 := rfl
  have hl3n : lean3.length = 3 := rfl
  rw [hl3n]
  clear hl3 hl3n
  go_wp2_with fail
  refine (group_calls w2).mono ?_
  rintro e w3 ⟨gv1, rfl, hg1, hB3⟩
  have hA2 := Lib.hid (LAll_calls hfb HS.out groupL [2, -5] gv1 _ (w3.alloc (.cells #[.int .i64 2, .int .i64 (-5)] 3)) (hg1.below RuleR.ok (below_alloc _ _)) (lit_any w3 [2, -5] (by decide)))
  have HB3 := Lib.hid (ext_trans hB3 (below_alloc w3 (.cells #[.int .i64 2, .int .i64 (-5)] 3)))
  clear hg1 hB3
  go_wp2_with fail
  refine hA2.out.mono ?_
  rintro e w4 ⟨y4, ls4, rfl, -, hy4, hB4⟩
  rw [lb3 fb]
  have HB4 := Lib.hid (ext_trans HB3.out hB4)
  obtain ⟨k0, k1, k2, k3, k4, k6, k7, k8, ks0, ks1⟩ := HK.out w4 HB4.out
  have hM1 := Lib.hid (SameTerms_eq [0] _ _ (w4.alloc (.cells #[.int .i64 0] 3)) (HV.out.1.below (ext_trans HB4.out (below_alloc w4 (.cells #[.int .i64 0] 3)))) (lit_any w4 [0] (by decide)))
  clear hA2 hB4 HB3 hy4
  go_wp2_with fail
  refine hM1.out.mono ?_
  rintro e w5 ⟨rfl, hbw5⟩
  have HB5 := Lib.hid (ext_trans (ext_trans HB4.out (below_alloc w4 (.cells #[.int .i64 0] 3))) hbw5)
  clear hbw5 hM1 k0 k1 k2 k3 k4 k6 k7 k8 ks0 ks1
  obtain ⟨k0, k1, k2, k3, k4, k6, k7, k8, ks0, ks1⟩ := HK.out w5 HB5.out
  have hM2 := Lib.hid (SameTerms_eq [0] _ _ (w5.alloc (.cells #[.int .i64 0] 3)) (HV.out.2.2.1.below (ext_trans HB5.out (below_alloc w5 (.cells #[.int .i64 0] 3)))) (lit_any w5 [0] (by decide)))
  go_wp2_with fail
  refine hM2.out.mono ?_
  rintro e w6 ⟨rfl, hbw6⟩
  have HB6 := Lib.hid (ext_trans (ext_trans HB5.out (below_alloc w5 (.cells #[.int .i64 0] 3))) hbw6)
  clear hbw6 hM2 k0 k1 k2 k3 k4 k6 k7 k8 ks0 ks1
  obtain ⟨k0, k1, k2, k3, k4, k6, k7, k8, ks0, ks1⟩ := HK.out w6 HB6.out
  have hM3 := Lib.hid (SameTerms_eq [2, 0] _ _ (w6.alloc (.cells #[.int .i64 2, .int .i64 0] 3)) (HV.out.2.1.below (ext_trans HB6.out (below_alloc w6 (.cells #[.int .i64 2, .int .i64 0] 3)))) (lit_any w6 [2, 0] (by decide)))
  go_wp2_with fail
  refine hM3.out.mono ?_
  rintro e w7 ⟨rfl, hbw7⟩
  have HB7 := Lib.hid (ext_trans (ext_trans HB6.out (below_alloc w6 (.cells #[.int .i64 2, .int .i64 0] 3))) hbw7)
  clear hbw7 hM3 k0 k1 k2 k3 k4 k6 k7 k8 ks0 ks1
  obtain ⟨k0, k1, k2, k3, k4, k6, k7, k8, ks0, ks1⟩ := HK.out w7 HB7.out
  have hM4 := Lib.hid (SameTerms_eq [0] _ _ (w7.alloc (.cells #[.int .i64 0] 3)) (HV.out.2.2.2.below (ext_trans HB7.out (below_alloc w7 (.cells #[.int .i64 0] 3)))) (lit_any w7 [0] (by decide)))
  go_wp2_with fail
  refine hM4.out.mono ?_
  rintro e w8 ⟨rfl, hbw8⟩
  have HB8 := Lib.hid (ext_trans (ext_trans HB7.out (below_alloc w7 (.cells #[.int .i64 0] 3))) hbw8)
  clear hbw8 hM4 k0 k1 k2 k3 k4 k6 k7 k8 ks0 ks1
  obtain ⟨k0, k1, k2, k3, k4, k6, k7, k8, ks0, ks1⟩ := HK.out w8 HB8.out
  go_wp2_with fail
  go_ret
  exact ⟨rfl, ext_trans HB2.out HB8.out⟩

end Go.Proofs.Ytepddehodmljeaa
