/- Walks: SubTrue. -/
import Derived.Test.YtepddehodmljeaaPd
namespace Go.Proofs.Ytepddehodmljeaa
open Go.RowKit Go.Maps

set_option maxRecDepth 100000 in
set_option maxHeartbeats 1000000 in
theorem SubTrue_calls (s r : List (List Int)) (t : List Int) (u0 v0 v : Value) (w : World) (hu : IsTerms Any w u0 s) (hr : IsTerms Any w v0 r) (hv : IsInts Any w v t) :
    Calls Try.prog 5 #[u0, v0, v] w fun e w' => e = .returned (.bool true) ∧ Below w.heap.size w w' := by
  obtain ⟨a, c, rfl⟩ := hu.isSlice
  obtain ⟨a', c', rfl⟩ := hr.isSlice
  obtain ⟨a'', c'', rfl⟩ := hv.isSlice
  by_cases hc : chk t = 0
  · have hN := Lib.hid (none_apply hc)
    have hP := Lib.hid (plain_again hc)
    have hC := Lib.hid hc
    clear hc
    go_enter Try.func5, Try.ntmps5
    go_wp2_with fail
    refine (Plain_calls t _ w hv).mono ?_
    rintro e w1 ⟨p, rfl, hp, hB1⟩
    rw [hC.out]
    replace hu := hu.below TermR.ok hB1
    replace hr := hr.below TermR.ok hB1
    replace hv := hv.below hB1
    replace hp := hp.any
    obtain ⟨pa, pc, rfl⟩ := hp.isSlice
    rw [hP.out.2.2] at hp ⊢
    go_wp2_with fail
    refine (None_calls w1).mono ?_
    rintro e w2 ⟨n, rfl, hn, hB2⟩
    replace hn := (hn.terms (by decide)).any TermR.ok
    replace hu := hu.below TermR.ok hB2
    replace hr := hr.below TermR.ok hB2
    replace hv := hv.below hB2
    replace hp := hp.below hB2
    replace hB1 := ext_trans hB1 hB2
    clear hB2
    go_wp2_with fail
    refine (Apply_calls noneS t _ _ w2 hn hv).mono ?_
    rintro e w3 ⟨x, rfl, hx, hB3⟩
    rw [hN.out.1]
    rw [hN.out.2] at hx
    replace hx := hx.any
    replace hu := hu.below TermR.ok hB3
    replace hr := hr.below TermR.ok hB3
    replace hv := hv.below hB3
    replace hp := hp.below hB3
    replace hB1 := ext_trans hB1 hB3
    clear hB3 hn
    go_wp2_with fail
    refine (Plain_calls (plT t) _ w3 hp).mono ?_
    rintro e w4 ⟨q, rfl, hq, hB4⟩
    rw [hP.out.1]
    rw [hP.out.2.1] at hq
    replace hq := hq.any
    replace hx := hx.below hB4
    replace hu := hu.below TermR.ok hB4
    replace hr := hr.below TermR.ok hB4
    replace hv := hv.below hB4
    replace hp := hp.below hB4
    replace hB1 := ext_trans hB1 hB4
    clear hB4
    go_wp2_with fail
    refine (SameTerms_eq t _ _ w4 hx hv).mono ?_
    rintro e w5 ⟨rfl, hB5⟩
    replace hq := hq.below hB5
    replace hu := hu.below TermR.ok hB5
    replace hr := hr.below TermR.ok hB5
    replace hv := hv.below hB5
    replace hp := hp.below hB5
    replace hB1 := ext_trans hB1 hB5
    clear hB5 hx
    go_wp2_with fail
    refine (SameTerms_eq (plT t) _ _ w5 hq hp).mono ?_
    rintro e w6 ⟨rfl, hB6⟩
    replace hu := hu.below TermR.ok hB6
    replace hr := hr.below TermR.ok hB6
    replace hv := hv.below hB6
    replace hB1 := ext_trans hB1 hB6
    clear hB6 hq hp
    go_wp2_with fail
    refine (Apply_calls s t _ _ w6 hu hv).mono ?_
    rintro e w7 ⟨x, rfl, hx, hB7⟩
    replace hx := hx.any
    replace hu := hu.below TermR.ok hB7
    replace hr := hr.below TermR.ok hB7
    replace hv := hv.below hB7
    replace hB1 := ext_trans hB1 hB7
    clear hB7
    go_wp2_with fail
    refine (After_calls s r _ _ w7 hu hr).mono ?_
    rintro e w8 ⟨y, rfl, hy, hB8⟩
    replace hy := hy.any TermR.ok
    replace hx := hx.below hB8
    replace hr := hr.below TermR.ok hB8
    replace hv := hv.below hB8
    replace hB1 := ext_trans hB1 hB8
    clear hB8 hu
    by_cases he : applyE s t = 0
    · by_cases ha : afterE s r = 0
      · obtain ⟨g1, g2⟩ := sub_true he ha
        have G1 := Lib.hid g1
        have G2 := Lib.hid g2
        clear g1 g2
        rw [he, ha]
        clear he ha
        go_wp2_with fail
        refine (Apply_calls r (applyT s t) _ _ w8 hr hx).mono ?_
        rintro e w9 ⟨z1, rfl, hz1, hB9⟩
        rw [G1.out]
        rw [G2.out] at hz1
        replace hz1 := hz1.any
        replace hy := hy.below TermR.ok hB9
        replace hv := hv.below hB9
        replace hB1 := ext_trans hB1 hB9
        clear hB9 hx hr
        go_wp2_with fail
        refine (Apply_calls (afterT s r) t _ _ w9 hy hv).mono ?_
        rintro e w10 ⟨z2, rfl, hz2, hB10⟩
        replace hz2 := hz2.any
        replace hz1 := hz1.below hB10
        replace hB1 := ext_trans hB1 hB10
        clear hB10 hy hv
        go_wp2_with fail
        refine (subBegun_calls w10).mono ?_
        rintro e w11 ⟨rfl, hB11⟩
        replace hz1 := hz1.below hB11
        replace hz2 := hz2.below hB11
        replace hB1 := ext_trans hB1 hB11
        clear hB11
        go_wp2_with fail
        refine (SameTerms_eq _ _ _ w11 hz1 hz2).mono ?_
        rintro e w12 ⟨rfl, hB12⟩
        replace hB1 := ext_trans hB1 hB12
        go_wp2_with fail
        go_ret
        exact ⟨rfl, hB1⟩
      · have ha' : (afterE s r != 0) = true := by simpa using ha
        rw [he]
        clear he ha
        go_wp2_with fail
        refine (subBegun_calls w8).mono ?_
        rintro e w9 ⟨rfl, hB9⟩
        replace hB1 := ext_trans hB1 hB9
        go_wp2_with fail
        go_ret
        exact ⟨rfl, hB1⟩
    · have he' : (applyE s t != 0) = true := by simpa using he
      clear he
      go_wp2_with fail
      refine (subBegun_calls w8).mono ?_
      rintro e w9 ⟨rfl, hB9⟩
      replace hB1 := ext_trans hB1 hB9
      go_wp2_with fail
      go_ret
      exact ⟨rfl, hB1⟩
  · have hc' : (chk t != 0) = true := by simpa using hc
    clear hc
    go_enter Try.func5, Try.ntmps5
    go_wp2_with fail
    refine (Plain_calls t _ w hv).mono ?_
    rintro e w1 ⟨p, rfl, hp, hB1⟩
    go_wp2_with fail
    refine (subBegun_calls w1).mono ?_
    rintro e w2 ⟨rfl, hB2⟩
    replace hB1 := ext_trans hB1 hB2
    go_wp2_with fail
    go_ret
    exact ⟨rfl, hB1⟩

end Go.Proofs.Ytepddehodmljeaa
