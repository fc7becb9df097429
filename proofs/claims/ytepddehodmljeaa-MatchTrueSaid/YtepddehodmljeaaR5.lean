/- Walks: termBegun; TermTells, TermPuts. -/
import Derived.Test.YtepddehodmljeaaR4
import Derived.Deep.DeepCutAuto
import Derived.Deep.RegionWith
namespace Go.Proofs.Ytepddehodmljeaa
open Go.RowKit Go.Maps

theorem tb : endN fxgaT 2 = 4 ∧ plc fxgaT 2 = 0 ∧ partT fxgaT 2 = [2, 0] ∧ putE fxgaT 1 [3, 1] = 0 ∧ putT fxgaT 1 [3, 1] = [4, 3, 1, 2, 0] ∧ plc fxgaT 4 = 3 ∧ putE (List.replicate 31 0) 0 fxgaT = 2 ∧ chk fxgaT = 0 ∧ chk [4, 0] = 1 ∧ chk [0, 0] = 1 ∧ chk [6] = 3 ∧ chk [] = 1 := by decide +kernel
theorem pure_below {n : FuncId} {args : Array Value} {w : World} {x : Ending} (h : Calls Try.prog n args w fun e w' => e = x ∧ w = w') : Calls Try.prog n args w fun e w' => e = x ∧ Below w.heap.size w w' :=
  h.mono fun _ _ h => ⟨h.1, h.2 ▸ .refl _ _⟩

theorem below_drew (B : Nat) (w : World) : Below B w w.drew := ⟨rfl, rfl, rfl, Nat.le_refl _, fun _ _ => rfl⟩
/-- Thirty-one noughts. -/
def z31 : List Int := List.replicate 31 0
def c31 : Array Value := (z31.map (Value.int .i64)).toArray
theorem mk31 (w : World) : (Instr.makeSlice 24 (.int .i64 31) (.int .i64 31)).run Try.prog w = .ok (.slice (some ⟨w.heap.size, 0, none⟩) 31 31) (w.alloc (.cells c31 3)) := by kernel_rfl

theorem z31_ints (w : World) : IsInts Any (w.alloc (.cells c31 3)) (.slice (some ⟨w.heap.size, 0, none⟩) 31 31) z31 := lit_any w z31 (by decide)

set_option maxRecDepth 100000 in
set_option maxHeartbeats 1000000 in
theorem termBegun_calls (w : World) : Calls Try.prog 55 #[] w fun e w' => e = .returned (.bool true) ∧ Below w.heap.size w w' := by
  go_enter Try.func55, Try.ntmps55
  go_wp2_with fail
  refine (fxga_calls w).mono ?_
  rintro e w1 ⟨f, rfl, hf, hB1⟩
  go_wp2_with fail
  refine (End_calls fxgaT _ 2 w1 hf.any).mono ?_
  rintro e w2 ⟨rfl, hB2⟩
  clear hf
  replace hB1 := ext_trans hB1 hB2
  clear hB2
  rw [tb.1, tb.2.1]
  go_wp2_with fail
  refine (fxga_calls w2).mono ?_
  rintro e w3 ⟨f, rfl, hf, hB3⟩
  replace hB1 := ext_trans hB1 hB3
  clear hB3
  go_wp2_with fail
  refine (Part_calls fxgaT _ 2 w3 hf.any).mono ?_
  rintro e w4 ⟨p, rfl, hp, hB4⟩
  clear hf
  replace hB1 := ext_trans hB1 hB4
  clear hB4
  rw [tb.2.1]
  rw [tb.2.2.1] at hp
  replace hp := hp.any
  obtain ⟨pa, pc, rfl⟩ := hp.isSlice
  go_wp2_with fail
  refine (fxga_calls w4).mono ?_
  rintro e w5 ⟨f, rfl, hf, hB5⟩
  replace hp := hp.below hB5
  replace hB1 := ext_trans hB1 hB5
  clear hB5
  go_wp2_with fail
  refine (Put_calls fxgaT [3, 1] _ _ 1 _ (hf.any.below (below_alloc w5 _)) (lit_any w5 [3, 1] (by decide))).mono ?_
  rintro e w6 ⟨t, rfl, ht, hB6⟩
  replace hB6 := ext_trans (below_alloc w5 _) hB6
  clear hf
  replace hp := hp.below hB6
  replace hB1 := ext_trans hB1 hB6
  clear hB6
  rw [tb.2.2.2.1]
  rw [tb.2.2.2.2.1] at ht
  replace ht := ht.any
  obtain ⟨ta, tc, rfl⟩ := ht.isSlice
  go_wp2_with fail
  refine (fxga_calls w6).mono ?_
  rintro e w7 ⟨f, rfl, hf, hB7⟩
  replace hp := hp.below hB7
  replace ht := ht.below hB7
  replace hB1 := ext_trans hB1 hB7
  clear hB7
  go_wp2_with fail
  refine (Part_calls fxgaT _ 4 w7 hf.any).mono ?_
  rintro e w8 ⟨p4, rfl, -, hB8⟩
  clear hf
  replace hp := hp.below hB8
  replace ht := ht.below hB8
  replace hB1 := ext_trans hB1 hB8
  clear hB8
  rw [tb.2.2.2.2.2.1]
  go_wp2_with fail
  go_cut [10] (fun s10 wx => s10 = .int .i64 2 ∧ Hid (Below w8.heap.size w8 wx))
  case first =>
    have hmk := mk31
    have hz := Lib.hid z31_ints
    have hE : Hid (putE z31 0 fxgaT = 2) := tb.2.2.2.2.2.2.1
    go_region_with (first
      | (go_at_call 103; (with_reducible refine (fxga_calls (w8.alloc (.cells c31 3)).drew).mono ?_); rintro e wa ⟨f, rfl, hf, hBa⟩; have ordA : True := trivial; have hzA := Lib.hid (((hz.out w8).below (below_drew _ _)).below hBa))
      | (go_at_call 103; (with_reducible refine (fxga_calls w8.drew).mono ?_); rintro e wa ⟨f, rfl, hf, hBa⟩; have ordB : True := trivial)
      | (go_at_call 58; have _t := ordA; refine (Put_calls z31 fxgaT _ _ 0 _ hzA.out hf.any).mono ?_; rintro e wb ⟨y, rfl, hy, hBb⟩; rw [hE.out]; have hBw := Lib.hid (ext_trans (ext_trans (ext_trans (below_alloc w8 _) (below_drew _ _)) hBa) hBb); clear hy)
      | (go_at_call 58; have _t := ordB; refine (Put_calls z31 fxgaT _ _ 0 _ (hz.out wa) (hf.any.below (below_alloc wa _))).mono ?_; rintro e wb ⟨y, rfl, hy, hBb⟩; rw [hE.out]; have hBw := Lib.hid (ext_trans (ext_alloc (ext_trans (below_drew _ w8) hBa) _) hBb); clear hy))
    all_goals (go_wp2_with fail; go_meet; case rel => exact ⟨rfl, hBw.out⟩)
  case rest =>
    obtain ⟨rfl, hc⟩ := hcut
    replace hp := hp.below hc.out
    replace ht := ht.below hc.out
    replace hB1 := ext_trans hB1 hc.out
    clear hc
    go_wp2_with fail
    refine (SameTerms_eq [2, 0] _ _ _ (hp.below (below_alloc wc _)) (lit_any wc [2, 0] (by decide))).mono ?_
    rintro e w21 ⟨rfl, hB21⟩
    replace hB21 := ext_trans (below_alloc wc _) hB21
    clear hp
    replace ht := ht.below hB21
    replace hB1 := ext_trans hB1 hB21
    clear hB21
    go_wp2_with fail
    refine (SameTerms_eq [4, 3, 1, 2, 0] _ _ _ (ht.below (below_alloc w21 _)) (lit_any w21 [4, 3, 1, 2, 0] (by decide))).mono ?_
    rintro e w22 ⟨rfl, hB22⟩
    replace hB22 := ext_trans (below_alloc w21 _) hB22
    clear ht
    replace hB1 := ext_trans hB1 hB22
    clear hB22
    go_wp2_with fail
    refine (fxga_calls w22).mono ?_
    rintro e w23 ⟨f, rfl, hf, hB23⟩
    replace hB1 := ext_trans hB1 hB23
    clear hB23
    go_wp2_with fail
    refine (pure_below (Check_calls fxgaT _ w23 hf.any)).mono ?_
    rintro e w24 ⟨rfl, hB24⟩
    clear hf
    replace hB1 := ext_trans hB1 hB24
    clear hB24
    rw [tb.2.2.2.2.2.2.2.1]
    go_wp2_with fail
    refine (pure_below (Check_calls [4, 0] _ _ (lit_any w24 [4, 0] (by decide)))).mono ?_
    rintro e w25 ⟨rfl, hB25⟩
    replace hB25 := ext_trans (below_alloc w24 _) hB25
    replace hB1 := ext_trans hB1 hB25
    clear hB25
    rw [tb.2.2.2.2.2.2.2.2.1]
    go_wp2_with fail
    refine (pure_below (Check_calls [0, 0] _ _ (lit_any w25 [0, 0] (by decide)))).mono ?_
    rintro e w26 ⟨rfl, hB26⟩
    replace hB26 := ext_trans (below_alloc w25 _) hB26
    replace hB1 := ext_trans hB1 hB26
    clear hB26
    rw [tb.2.2.2.2.2.2.2.2.2.1]
    go_wp2_with fail
    refine (pure_below (Check_calls [6] _ _ (lit_any w26 [6] (by decide)))).mono ?_
    rintro e w27 ⟨rfl, hB27⟩
    replace hB27 := ext_trans (below_alloc w26 _) hB27
    replace hB1 := ext_trans hB1 hB27
    clear hB27
    rw [tb.2.2.2.2.2.2.2.2.2.2.1]
    go_wp2_with fail
    refine (pure_below (Check_calls [] _ _ (.nil _ w27))).mono ?_
    rintro e w28 ⟨rfl, hB28⟩
    replace hB1 := ext_trans hB1 hB28
    clear hB28
    rw [tb.2.2.2.2.2.2.2.2.2.2.2]
    go_wp2_with fail
    go_ret
    exact ⟨rfl, hB1⟩

end Go.Proofs.Ytepddehodmljeaa
