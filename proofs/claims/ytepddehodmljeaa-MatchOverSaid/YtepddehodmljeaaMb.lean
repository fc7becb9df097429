/- Walks: MatchOver. -/
import Derived.Test.YtepddehodmljeaaMa
namespace Go.Proofs.Ytepddehodmljeaa
open Go.RowKit Go.Maps

set_option maxRecDepth 100000 in
set_option maxHeartbeats 1000000 in
theorem MatchOver_calls (t p : List Int) (u v : Value) (w : World) (hu : IsInts Any w u t) (hv : IsInts Any w v p) : Calls Try.prog 7 #[u, v] w fun e w' => e = .returned (.bool true) ∧ Below w.heap.size w w' := by
  obtain ⟨ua, uc, rfl⟩ := hu.isSlice
  obtain ⟨va, vc, rfl⟩ := hv.isSlice
  go_enter Try.func7, Try.ntmps7
  go_wp2_with fail
  refine (Over_calls t p _ _ w hu hv).mono ?_
  rintro e w1 ⟨x, rfl, hx, hB1⟩
  replace hu := hu.below hB1
  replace hv := hv.below hB1
  replace hx := hx.any
  go_wp2_with fail
  refine (OverOf_calls t p _ _ w1 hu hv).mono ?_
  rintro e w2 ⟨y, rfl, hy, hB2⟩
  replace hx := hx.below hB2
  replace hy := hy.any
  replace hB1 := ext_trans hB1 hB2
  clear hB2 hu hv
  have hHB := Lib.hid hB1
  generalize overT t p = L at *
  by_cases hL : L = []
  · subst hL
    obtain ⟨xa, xc, rfl⟩ := hx.isSlice
    obtain ⟨ya, yc, rfl⟩ := hy.isSlice
    clear hx hy hB1
    go_wp2_with fail
    refine wp_loop_rounds 1 ?_
    rw [rounds_succ]
    go_wp2_with fail
    refine (matchBegun_calls w2).mono ?_
    rintro e w3 ⟨rfl, hB3⟩
    go_wp2_with fail
    go_ret
    exact ⟨rfl, ext_trans hHB.out hB3⟩
  · obtain ⟨b, o, c, rfl⟩ := hx.cells hL
    obtain ⟨b', o', c', rfl⟩ := hy.cells hL
    have hLb := hx.1
    have HX := Lib.hid fun j (hj : j < L.length) => hx.cell hj
    have HY := Lib.hid fun j (hj : j < L.length) => hy.cell hj
    clear hx hy hB1 hL
    go_wp2_with fail
    go_loopw [9] (fun i wr => ∃ k : Nat, k ≤ L.length ∧ i = .int .i64 k ∧ ∃ n, wr = w2.drewN n) (fun i _ => L.length - (intOf i).toNat)
    case atStart => exact ⟨0, by omega, rfl, 0, rfl⟩
    case round =>
      obtain ⟨k, hk, rfl, n, rfl⟩ := hrel
      by_cases hlt : k < L.length
      · have h1 := HX.out k hlt
        have h2 := HY.out k hlt
        have hik : (k : Int) < L.length := by omega
        go_wp2_with fail
        go_quiet (fail)
        go_wp2_with fail
        go_roundw
        case rel => exact ⟨k + 1, by omega, by go_num, _, rfl⟩
        case measure => simp [intOf]; omega
      · obtain rfl : k = L.length := by omega
        go_wp2_with fail
        refine (matchBegun_calls _).mono ?_
        rintro e w3 ⟨rfl, hB3⟩
        go_wp2_with fail
        go_ret
        exact ⟨rfl, (hHB.out.trans (below_drewN _ w2 n)).trans (hB3.mono hHB.out.size)⟩

end Go.Proofs.Ytepddehodmljeaa
