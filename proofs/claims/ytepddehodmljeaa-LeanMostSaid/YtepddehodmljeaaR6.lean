/- Walks: TermTells, TermPuts. -/
import Derived.Test.YtepddehodmljeaaG4
namespace Go.Proofs.Ytepddehodmljeaa
open Go.RowKit Go.Maps

set_option maxRecDepth 100000 in
set_option maxHeartbeats 1000000 in
theorem TermTells_calls (t : List Int) (k : Int) (v : Value) (w : World) (hv : IsInts Any w v t) : Calls Try.prog 8 #[v, .int .i64 k] w fun e w' => e = .returned (.bool true) ∧ Below w.heap.size w w' := by
  obtain ⟨va, vc, rfl⟩ := hv.isSlice
  go_enter Try.func8, Try.ntmps8
  go_wp2_with fail
  refine (End_calls t _ k w hv).mono ?_
  rintro e w1 ⟨rfl, hB1⟩
  replace hv := hv.below hB1
  go_wp2_with fail
  refine (Part_calls t _ k w1 hv).mono ?_
  rintro e w2 ⟨p, rfl, hp, hB2⟩
  replace hv := hv.below hB2
  replace hB1 := ext_trans hB1 hB2
  clear hB2
  replace hp := hp.any
  go_wp2_with fail
  refine (EndOf_calls t _ k w2 hv).mono ?_
  rintro e w3 ⟨rfl, hB3⟩
  replace hv := hv.below hB3
  replace hp := hp.below hB3
  replace hB1 := ext_trans hB1 hB3
  clear hB3
  go_wp2_with fail
  refine (PartOf_calls t _ k w3 hv).mono ?_
  rintro e w4 ⟨q, rfl, hq, hB4⟩
  replace hv := hv.below hB4
  replace hp := hp.below hB4
  replace hB1 := ext_trans hB1 hB4
  clear hB4
  replace hq := hq.any
  go_wp2_with fail
  refine (termBegun_calls w4).mono ?_
  rintro e w5 ⟨rfl, hB5⟩
  replace hv := hv.below hB5
  replace hp := hp.below hB5
  replace hq := hq.below hB5
  replace hB1 := ext_trans hB1 hB5
  clear hB5
  go_wp2_with fail
  refine (pure_below (Check_calls t _ w5 hv)).mono ?_
  rintro e w6 ⟨rfl, hB6⟩
  replace hv := hv.below hB6
  replace hp := hp.below hB6
  replace hq := hq.below hB6
  replace hB1 := ext_trans hB1 hB6
  clear hB6
  go_wp2_with fail
  refine (pure_below (TermError_calls t _ w6 hv)).mono ?_
  rintro e w7 ⟨rfl, hB7⟩
  clear hv
  replace hp := hp.below hB7
  replace hq := hq.below hB7
  replace hB1 := ext_trans hB1 hB7
  clear hB7
  go_wp2_with fail
  refine (SameTerms_eq (partT t k) _ _ w7 hp hq).mono ?_
  rintro e w8 ⟨rfl, hB8⟩
  clear hp hq
  replace hB1 := ext_trans hB1 hB8
  clear hB8
  go_wp2_with fail
  go_ret
  exact ⟨rfl, hB1⟩

set_option maxRecDepth 100000 in
set_option maxHeartbeats 1000000 in
theorem TermPuts_calls (t : List Int) (k : Int) (u : List Int) (v x : Value) (w : World) (hv : IsInts Any w v t) (hx : IsInts Any w x u) : Calls Try.prog 9 #[v, .int .i64 k, x] w fun e w' => e = .returned (.bool true) ∧ Below w.heap.size w w' := by
  obtain ⟨va, vc, rfl⟩ := hv.isSlice
  obtain ⟨xa, xc, rfl⟩ := hx.isSlice
  go_enter Try.func9, Try.ntmps9
  go_wp2_with fail
  refine (Put_calls t u _ _ k w hv hx).mono ?_
  rintro e w1 ⟨y, rfl, hy, hB1⟩
  replace hv := hv.below hB1
  replace hx := hx.below hB1
  replace hy := hy.any
  go_wp2_with fail
  refine (PutOf_calls t u _ _ k w1 hv hx).mono ?_
  rintro e w2 ⟨z, rfl, hz, hB2⟩
  clear hv hx
  replace hy := hy.below hB2
  replace hB1 := ext_trans hB1 hB2
  clear hB2
  replace hz := hz.any
  go_wp2_with fail
  refine (termBegun_calls w2).mono ?_
  rintro e w3 ⟨rfl, hB3⟩
  replace hy := hy.below hB3
  replace hz := hz.below hB3
  replace hB1 := ext_trans hB1 hB3
  clear hB3
  go_wp2_with fail
  refine (SameTerms_eq (putT t k u) _ _ w3 hy hz).mono ?_
  rintro e w4 ⟨rfl, hB4⟩
  clear hy hz
  replace hB1 := ext_trans hB1 hB4
  clear hB4
  go_wp2_with fail
  go_ret
  exact ⟨rfl, hB1⟩

end Go.Proofs.Ytepddehodmljeaa
