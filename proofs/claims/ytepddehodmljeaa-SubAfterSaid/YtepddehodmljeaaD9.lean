/- Walks: SubAfter. -/
import Derived.Test.YtepddehodmljeaaD8
namespace Go.Proofs.Ytepddehodmljeaa
open Go.RowKit Go.Maps

set_option maxRecDepth 100000 in
set_option maxHeartbeats 1000000 in
theorem SubAfter_calls (s r : List (List Int)) (t : List Int) (u0 v0 v : Value) (w : World) (hu : IsTerms Any w u0 s) (hr : IsTerms Any w v0 r) (hv : IsInts Any w v t) :
    Calls Try.prog 4 #[u0, v0, v] w fun e w' => e = .returned (.bool true) ∧ Below w.heap.size w w' := by
  obtain ⟨a, c, rfl⟩ := hu.isSlice
  obtain ⟨a', c', rfl⟩ := hr.isSlice
  obtain ⟨a'', c'', rfl⟩ := hv.isSlice
  go_enter Try.func4, Try.ntmps4
  go_wp2_with fail
  refine (After_calls s r _ _ w hu hr).mono ?_
  rintro e w1 ⟨x, rfl, hx, hB1⟩
  replace hu := hu.below TermR.ok hB1
  replace hr := hr.below TermR.ok hB1
  replace hv := hv.below hB1
  replace hx := hx.any TermR.ok
  go_wp2_with fail
  refine (Plain_calls t _ w1 hv).mono ?_
  rintro e w2 ⟨p, rfl, hp, hB2⟩
  replace hu := hu.below TermR.ok hB2
  replace hr := hr.below TermR.ok hB2
  replace hv := hv.below hB2
  replace hx := hx.below TermR.ok hB2
  replace hp := hp.any
  replace hB1 := ext_trans hB1 hB2
  clear hB2
  go_wp2_with fail
  refine (AfterOf_calls s r _ _ w2 hu hr).mono ?_
  rintro e w3 ⟨y, rfl, hy, hB3⟩
  replace hv := hv.below hB3
  replace hx := hx.below TermR.ok hB3
  replace hp := hp.below hB3
  replace hy := hy.any TermR.ok
  replace hB1 := ext_trans hB1 hB3
  clear hB3 hu hr
  go_wp2_with fail
  refine (PlainOf_calls t _ w3 hv).mono ?_
  rintro e w4 ⟨q, rfl, hq, hB4⟩
  replace hx := hx.below TermR.ok hB4
  replace hp := hp.below hB4
  replace hy := hy.below TermR.ok hB4
  replace hq := hq.any
  replace hB1 := ext_trans hB1 hB4
  clear hB4 hv
  go_wp2_with fail
  refine (subBegun_calls w4).mono ?_
  rintro e w5 ⟨rfl, hB5⟩
  replace hx := hx.below TermR.ok hB5
  replace hp := hp.below hB5
  replace hy := hy.below TermR.ok hB5
  replace hq := hq.below hB5
  replace hB1 := ext_trans hB1 hB5
  clear hB5
  go_wp2_with fail
  refine (SameSubs_eq _ _ _ w5 hx hy).mono ?_
  rintro e w6 ⟨rfl, hB6⟩
  replace hp := hp.below hB6
  replace hq := hq.below hB6
  replace hB1 := ext_trans hB1 hB6
  clear hB6 hx hy
  go_wp2_with fail
  refine (SameTerms_eq _ _ _ w6 hp hq).mono ?_
  rintro e w7 ⟨rfl, hB7⟩
  replace hB1 := ext_trans hB1 hB7
  go_wp2_with fail
  go_ret
  exact ⟨rfl, hB1⟩

end Go.Proofs.Ytepddehodmljeaa
