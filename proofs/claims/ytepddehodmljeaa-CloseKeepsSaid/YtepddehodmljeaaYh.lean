/- Walks: pairsBegun, joinBegun. -/
import Derived.Test.YtepddehodmljeaaYg
namespace Go.Proofs.Ytepddehodmljeaa
open Go.RowKit Go.Maps

theorem prs_at {S : Blk} {w : World} {v : Value} {l : Rus} (h : IsRules S w v l) {j : Nat} (hj : j < l.length) :
    ∃ b o c u x, v = .slice (some ⟨b, o, none⟩) l.length c ∧ w.cell? ⟨b, o + j * 2, none⟩ = some u ∧ w.cell? ⟨b, o + j * 2 + 1, none⟩ = some x ∧ IsInts S w u (nthR l j).1 ∧ IsInts S w x (nthR l j).2 := by
  obtain ⟨-, ⟨rfl, -⟩ | ⟨b, o, c, e, -, -, hc⟩⟩ := h.cells
  · simp at hj
  · obtain ⟨u, x, h1, h2, h3, h4⟩ := hc j hj
    exact ⟨b, o, c, u, x, e, h1, h2, h3, h4⟩
theorem rules_take1 {S : Blk} {w : World} {v : Value} {r : Ru} {l : Rus} (h : IsRules S w v (r :: l)) : ∃ b o c, v = .slice (some ⟨b, o, none⟩) (r :: l).length c ∧ (r :: l).length ≤ c ∧ IsRules S w (.slice (some ⟨b, o, none⟩) 1 c) [r] := by
  obtain ⟨hl, ⟨h, -⟩ | ⟨-, b, o, c, rfl, hcap, hS, hlt, cs, he, hc⟩⟩ := h
  · cases h
  · refine ⟨b, o, c, rfl, hcap, by simp, .inr ⟨by simp, b, o, c, rfl, by simp at hcap; simp; omega, hS, hlt, cs.take 2, ?_, fun j u hj => hc j u ?_⟩⟩
    · have := he.take 1; simpa using this
    · rw [List.getElem?_take] at hj
      split at hj
      · exact hj
      · cases hj

theorem pb1 (fb : Fb) : pofE fb groupL 2 0 = 0 ∧ pofL fb groupL 2 0 = [([4, -1, -2], [4, 0, 4, -1, -2])] := ⟨by kernel_rfl, by kernel_rfl⟩
theorem pb2 (fb : Fb) : pofE fb groupL 2 2 = 0 ∧ pofL fb groupL 2 2 = [([4, 4, -1, 4, -2, -3, -4], [4, 4, -1, -2, 4, -3, -4])] := ⟨by kernel_rfl, by kernel_rfl⟩
theorem pb3 (fb : Fb) : pofE fb groupL 2 3 = 5 := by kernel_rfl
theorem pb4 (fb : Fb) : pevE fb groupL = 0 ∧ (pevL fb groupL).length = 3 := ⟨by kernel_rfl, by kernel_rfl⟩
theorem jb1 (fb : Fb) : jaB fb groupL = false ∧ jaE fb groupL = 0 := ⟨by kernel_rfl, by kernel_rfl⟩
theorem jb2 : jpB groupL ([4, 4, -1, -2, -3], [4, -1, 4, -2, -3]) = true ∧ jpE groupL ([4, 4, -1, -2, -3], [4, -1, 4, -2, -3]) = 0 := ⟨by kernel_rfl, by kernel_rfl⟩
theorem jb3 : jpB groupL ([0], [1]) = false ∧ jpE groupL ([0], [1]) = 0 := ⟨by kernel_rfl, by kernel_rfl⟩
theorem jb4 (fb : Fb) : jaB fb [([4, 0, -1], [-1])] = true ∧ jaE fb [([4, 0, -1], [-1])] = 0 := ⟨by kernel_rfl, by kernel_rfl⟩

set_option maxRecDepth 100000 in
set_option maxHeartbeats 4000000 in
theorem pairsBegun_calls (w : World) : Calls Try.prog 95 #[] w fun e w' => e = .returned (.bool true) ∧ Below w.heap.size w w' := by
  obtain ⟨fb, hfb⟩ := exists_fb
  go_enter Try.func95, Try.ntmps95
  go_wp2_with fail
  refine (group_calls w).mono ?_
  rintro e w1 ⟨gv0, rfl, hg0, hB1⟩
  go_wp2_with fail
  refine (POf_calls hfb groupL 2 0 _ w1 hg0).mono ?_
  rintro e w2 ⟨p0, rfl, hp0, hB2⟩
  clear hg0
  replace hB1 := ext_trans hB1 hB2
  clear hB2
  rw [(pb1 fb).1]
  rw [(pb1 fb).2] at hp0
  replace hp0 := IsRow.any RuleR.ok hp0
  obtain ⟨pb0, po0, pc0, u0, x0, rfl, -⟩ := prs_at hp0 (j := 0) (by decide)
  simp only [List.length_cons, List.length_nil, Nat.zero_add] at hp0 ⊢
  go_wp2_with fail
  refine (group_calls w2).mono ?_
  rintro e w3 ⟨gv1, rfl, hg1, hB3⟩
  replace hp0 := hp0.below RuleR.ok hB3
  replace hB1 := ext_trans hB1 hB3
  clear hB3
  go_wp2_with fail
  refine (POf_calls hfb groupL 2 2 _ w3 hg1).mono ?_
  rintro e w4 ⟨p1, rfl, hp1, hB4⟩
  clear hg1
  replace hp0 := hp0.below RuleR.ok hB4
  replace hB1 := ext_trans hB1 hB4
  clear hB4
  rw [(pb2 fb).1]
  rw [(pb2 fb).2] at hp1
  replace hp1 := IsRow.any RuleR.ok hp1
  obtain ⟨pb1, po1, pc1, u1, x1, rfl, -⟩ := prs_at hp1 (j := 0) (by decide)
  simp only [List.length_cons, List.length_nil, Nat.zero_add] at hp1 ⊢
  go_wp2_with fail
  refine (group_calls w4).mono ?_
  rintro e w5 ⟨gv2, rfl, hg2, hB5⟩
  replace hp0 := hp0.below RuleR.ok hB5
  replace hp1 := hp1.below RuleR.ok hB5
  replace hB1 := ext_trans hB1 hB5
  clear hB5
  go_wp2_with fail
  refine (POf_calls hfb groupL 2 3 _ w5 hg2).mono ?_
  rintro e w6 ⟨p2, rfl, hp2, hB6⟩
  clear hg2
  replace hp0 := hp0.below RuleR.ok hB6
  replace hp1 := hp1.below RuleR.ok hB6
  replace hB1 := ext_trans hB1 hB6
  clear hB6
  rw [(pb3 fb)]
  clear hp2
  go_wp2_with fail
  refine (group_calls w6).mono ?_
  rintro e w7 ⟨gv3, rfl, hg3, hB7⟩
  replace hp0 := hp0.below RuleR.ok hB7
  replace hp1 := hp1.below RuleR.ok hB7
  replace hB1 := ext_trans hB1 hB7
  clear hB7
  go_wp2_with fail
  refine (PAll_calls hfb groupL _ w7 hg3).mono ?_
  rintro e w8 ⟨p3, rfl, hp3, hB8⟩
  clear hg3
  replace hp0 := hp0.below RuleR.ok hB8
  replace hp1 := hp1.below RuleR.ok hB8
  replace hB1 := ext_trans hB1 hB8
  clear hB8
  rw [(pb4 fb).1]
  obtain ⟨qa, qc, rfl⟩ := hp3.isSlice
  rw [(pb4 fb).2]
  clear hp3
  obtain ⟨b0l, o0l, c0l, u0l, x0l, e0l, hcu0l, hcx0l, hu0l, hx0l⟩ := prs_at hp0 (j := 0) (by decide)
  cases e0l
  simp only [Nat.zero_mul, Nat.add_zero] at hcu0l hcx0l
  go_wp2_with fail
  refine (SameTerms_eq [4, -1, -2] _ _ _ (hu0l.below (below_alloc w8 _)) (lit_any w8 [4, -1, -2] (by decide))).mono ?_
  rintro e w9 ⟨rfl, hB9⟩
  replace hB9 := ext_trans (below_alloc w8 _) hB9
  clear hu0l hx0l hcu0l hcx0l
  replace hp0 := hp0.below RuleR.ok hB9
  replace hp1 := hp1.below RuleR.ok hB9
  replace hB1 := ext_trans hB1 hB9
  clear hB9
  obtain ⟨b0r, o0r, c0r, u0r, x0r, e0r, hcu0r, hcx0r, hu0r, hx0r⟩ := prs_at hp0 (j := 0) (by decide)
  cases e0r
  simp only [Nat.zero_mul, Nat.add_zero] at hcu0r hcx0r
  go_wp2_with fail
  refine (SameTerms_eq [4, 0, 4, -1, -2] _ _ _ (hx0r.below (below_alloc w9 _)) (lit_any w9 [4, 0, 4, -1, -2] (by decide))).mono ?_
  rintro e w10 ⟨rfl, hB10⟩
  replace hB10 := ext_trans (below_alloc w9 _) hB10
  clear hu0r hx0r hcu0r hcx0r
  replace hp0 := hp0.below RuleR.ok hB10
  replace hp1 := hp1.below RuleR.ok hB10
  replace hB1 := ext_trans hB1 hB10
  clear hB10
  obtain ⟨b1l, o1l, c1l, u1l, x1l, e1l, hcu1l, hcx1l, hu1l, hx1l⟩ := prs_at hp1 (j := 0) (by decide)
  cases e1l
  simp only [Nat.zero_mul, Nat.add_zero] at hcu1l hcx1l
  go_wp2_with fail
  refine (SameTerms_eq [4, 4, -1, 4, -2, -3, -4] _ _ _ (hu1l.below (below_alloc w10 _)) (lit_any w10 [4, 4, -1, 4, -2, -3, -4] (by decide))).mono ?_
  rintro e w11 ⟨rfl, hB11⟩
  replace hB11 := ext_trans (below_alloc w10 _) hB11
  clear hu1l hx1l hcu1l hcx1l
  replace hp0 := hp0.below RuleR.ok hB11
  replace hp1 := hp1.below RuleR.ok hB11
  replace hB1 := ext_trans hB1 hB11
  clear hB11
  obtain ⟨b1r, o1r, c1r, u1r, x1r, e1r, hcu1r, hcx1r, hu1r, hx1r⟩ := prs_at hp1 (j := 0) (by decide)
  cases e1r
  simp only [Nat.zero_mul, Nat.add_zero] at hcu1r hcx1r
  go_wp2_with fail
  refine (SameTerms_eq [4, 4, -1, -2, 4, -3, -4] _ _ _ (hx1r.below (below_alloc w11 _)) (lit_any w11 [4, 4, -1, -2, 4, -3, -4] (by decide))).mono ?_
  rintro e w12 ⟨rfl, hB12⟩
  replace hB12 := ext_trans (below_alloc w11 _) hB12
  clear hu1r hx1r hcu1r hcx1r
  replace hp0 := hp0.below RuleR.ok hB12
  replace hp1 := hp1.below RuleR.ok hB12
  replace hB1 := ext_trans hB1 hB12
  clear hB12
  go_wp2_with fail
  go_ret
  exact ⟨rfl, hB1⟩

set_option maxRecDepth 100000 in
set_option maxHeartbeats 4000000 in
theorem joinBegun_calls (w : World) : Calls Try.prog 96 #[] w fun e w' => e = .returned (.bool true) ∧ Below w.heap.size w w' := by
  obtain ⟨fb, hfb⟩ := exists_fb
  go_enter Try.func96, Try.ntmps96
  go_wp2_with fail
  refine (group_calls w).mono ?_
  rintro e w1 ⟨gv0, rfl, hg0, hB1⟩
  go_wp2_with fail
  refine (JAll_calls hfb groupL _ w1 hg0).mono ?_
  rintro e w2 ⟨rfl, hB2⟩
  clear hg0
  replace hB1 := ext_trans hB1 hB2
  clear hB2
  rw [(jb1 fb).1, (jb1 fb).2]
  go_wp2_with fail
  refine (group_calls w2).mono ?_
  rintro e w3 ⟨gv1, rfl, hg1, hB3⟩
  replace hB1 := ext_trans hB1 hB3
  clear hB3
  go_wp2_with fail
  refine (JPair_calls groupL ([4, 4, -1, -2, -3], [4, -1, 4, -2, -3]) _ _ _ _ (hg1.below RuleR.ok (ext_alloc (below_alloc w3 _) _)) ((lit_any w3 [4, 4, -1, -2, -3] (by decide)).below (below_alloc _ _)) (lit_next w3 _ [4, -1, 4, -2, -3] (by decide))).mono ?_
  rintro e w4 ⟨rfl, hB4⟩
  replace hB4 := ext_trans (ext_alloc (below_alloc w3 _) _) hB4
  clear hg1
  replace hB1 := ext_trans hB1 hB4
  clear hB4
  rw [jb2.1, jb2.2]
  go_wp2_with fail
  refine (group_calls w4).mono ?_
  rintro e w5 ⟨gv2, rfl, hg2, hB5⟩
  replace hB1 := ext_trans hB1 hB5
  clear hB5
  go_wp2_with fail
  refine (JPair_calls groupL ([0], [1]) _ _ _ _ (hg2.below RuleR.ok (ext_alloc (below_alloc w5 _) _)) ((lit_any w5 [0] (by decide)).below (below_alloc _ _)) (lit_next w5 _ [1] (by decide))).mono ?_
  rintro e w6 ⟨rfl, hB6⟩
  replace hB6 := ext_trans (ext_alloc (below_alloc w5 _) _) hB6
  clear hg2
  replace hB1 := ext_trans hB1 hB6
  clear hB6
  rw [jb3.1, jb3.2]
  go_wp2_with fail
  refine (group_calls w6).mono ?_
  rintro e w7 ⟨gv3, rfl, hg3, hB7⟩
  replace hB1 := ext_trans hB1 hB7
  clear hB7
  obtain ⟨gb, go, gc, rfl, hgc, hg4⟩ := rules_take1 hg3
  have hgc1 : 1 ≤ gc := by have : 3 ≤ gc := hgc; omega
  have hgc2 : (1 : Int) ≤ gc := by omega
  have hgl : groupL.length = 3 := rfl
  clear hg3
  go_wp2_with fail
  refine (JAll_calls hfb [([4, 0, -1], [-1])] _ w7 hg4).mono ?_
  rintro e w8 ⟨rfl, hB8⟩
  clear hg4
  replace hB1 := ext_trans hB1 hB8
  clear hB8
  rw [(jb4 fb).1, (jb4 fb).2]
  go_wp2_with fail
  go_ret
  exact ⟨rfl, hB1⟩

end Go.Proofs.Ytepddehodmljeaa
