/- Walks: NormModel. -/
import Derived.Test.YtepddehodmljeaaV4
namespace Go.Proofs.Ytepddehodmljeaa
open Go.RowKit Go.Maps

set_option maxRecDepth 100000 in
set_option maxHeartbeats 2000000 in
theorem NormModel_calls (l : Rus) (t m : List Int) (v x : Value) (mv : Array Value) (w : World) (hv : IsRules Any w v l) (hx : IsInts Any w x t) (hm : IsMod m mv) :
    Calls Try.prog 23 #[v, x, .agg mv] w fun e w' => e = .returned (.bool true) ∧ Below w.heap.size w w' := by
  obtain ⟨va, vc, rfl⟩ := hv.isSlice
  obtain ⟨xa, xc, rfl⟩ := hx.isSlice
  have hB0 := below_alloc w (.cells mv 57)
  have hB00 := Lib.hid hB0
  replace hv := hv.below RuleR.ok hB0
  replace hx := hx.below hB0
  have hblk : Hid (∀ W, Below (w.alloc (.cells mv 57)).heap.size (w.alloc (.cells mv 57)) W → W.heap[w.heap.size]? = some (.cells mv 57 (0, 0))) := fun W hW => by
    rw [hW.block _ (by simp)]
    exact heap_alloc_new _ _
  have h57 : (Try.prog.info? 57).map (·.size) = some mv.size := by rw [hm.size]; kernel_rfl
  have hW := Lib.hid fun hl v w hv => world_calls m mv hm l hl v w hv
  have hH := Lib.hid fun a b ha hb u v w hu hv => holds_calls m mv hm a b ha hb u v w hu hv
  clear hm
  by_cases he : formE l t = 0
  · have hE := Lib.hid he
    have hask := (form_zero he).1
    obtain ⟨hl, ht⟩ := askE_zero hask
    have hE1 := Lib.hid (rulesE_zero.2 hl)
    have hE2 := Lib.hid ht
    have hE3 := Lib.hid (form_chk he)
    have hL := Lib.hid hl
    have hNorm := Lib.hid (norm_hol (m := m) he)
    clear he hask hl ht
    go_enter Try.func23, Try.ntmps23
    go_wp2_with fail
    refine (Form_calls l t _ _ (w.alloc (.cells mv 57)) hv hx).mono ?_
    rintro e w1 ⟨y, rfl, hy, hB1⟩
    replace hv := hv.below RuleR.ok hB1
    replace hx := hx.below hB1
    replace hy := hy.any
    obtain ⟨ya, yc, rfl⟩ := hy.isSlice
    rw [hE.out]
    go_wp2_with fail
    refine (RulesError_calls l _ w1 hv).mono ?_
    rintro e w2 ⟨rfl, hB2⟩
    replace hv := hv.below RuleR.ok hB2
    replace hx := hx.below hB2
    replace hy := hy.below hB2
    replace hB1 := ext_trans hB1 hB2
    clear hB2
    rw [hE1.out]
    go_wp2_with fail
    refine (pure_below (TermError_calls t _ w2 hx)).mono ?_
    rintro e w3 ⟨rfl, hB3⟩
    replace hv := hv.below RuleR.ok hB3
    replace hx := hx.below hB3
    replace hy := hy.below hB3
    replace hB1 := ext_trans hB1 hB3
    clear hB3
    rw [hE2.out]
    go_wp2_with fail
    refine (pure_below (TermError_calls (formT l t) _ w3 hy)).mono ?_
    rintro e w4 ⟨rfl, hB4⟩
    replace hv := hv.below RuleR.ok hB4
    replace hx := hx.below hB4
    replace hy := hy.below hB4
    replace hB1 := ext_trans hB1 hB4
    clear hB4
    rw [hE3.out]
    have hg := hblk.out w4 hB1
    have hWC := Lib.hid (hW.out hL.out _ w4 hv)
    have HV := Lib.hid hv
    have HX := Lib.hid hx
    have HY := Lib.hid hy
    have HB1 := Lib.hid hB1
    clear hv hx hy hB1
    cases hwb : worB m l
    · rw [hwb] at hWC
      clear hwb
      go_wp2_with (refine wpList_load_row_g (by rfl) 57 _ rfl w.heap.size rfl 57 mv (0, 0) _ hg Try.underlying57 rfl h57 ?_)
      refine hWC.out.mono ?_
      rintro e w5 ⟨rfl, hB5⟩
      go_wp2_with fail
      refine (normBegun_calls w5).mono ?_
      rintro e w6 ⟨rfl, hB6⟩
      go_wp2_with fail
      go_ret
      exact ⟨rfl, ext_trans hB00.out (ext_trans (ext_trans HB1.out hB5) hB6)⟩
    · rw [hwb] at hWC
      have hHol : Hid (holB m t (formT l t) = true) := (holB_iff hE2.out hE3.out).2 (hNorm.out ((worB_iff hL.out).1 hwb))
      clear hwb
      go_wp2_with (refine wpList_load_row_g (by rfl) 57 _ rfl w.heap.size rfl 57 mv (0, 0) _ hg Try.underlying57 rfl h57 ?_)
      refine hWC.out.mono ?_
      rintro e w5 ⟨rfl, hB5⟩
      go_wp2_with fail
      refine (normBegun_calls w5).mono ?_
      rintro e w6 ⟨rfl, hB6⟩
      have hg6 := hblk.out w6 (ext_trans (ext_trans HB1.out hB5) hB6)
      clear hg
      go_wp2_with (refine wpList_load_row_g (by rfl) 57 _ rfl w.heap.size rfl 57 mv (0, 0) _ hg6 Try.underlying57 rfl h57 ?_)
      refine (hH.out t (formT l t) hE2.out hE3.out _ _ w6 ((HX.out.below hB5).below hB6) ((HY.out.below hB5).below hB6)).mono ?_
      rintro e w7 ⟨rfl, hB7⟩
      rw [hHol.out]
      go_wp2_with fail
      go_ret
      exact ⟨rfl, ext_trans hB00.out (ext_trans (ext_trans (ext_trans HB1.out hB5) hB6) hB7)⟩
  · have h' : (formE l t != 0) = true := by simpa using he
    clear he
    go_enter Try.func23, Try.ntmps23
    go_wp2_with fail
    refine (Form_calls l t _ _ (w.alloc (.cells mv 57)) hv hx).mono ?_
    rintro e w1 ⟨y, rfl, hy, hB1⟩
    replace hv := hv.below RuleR.ok hB1
    replace hx := hx.below hB1
    replace hy := hy.any
    obtain ⟨ya, yc, rfl⟩ := hy.isSlice
    go_wp2_with fail
    refine (normBegun_calls w1).mono ?_
    rintro e w2 ⟨rfl, hB2⟩
    clear hv hx hy
    replace hB1 := ext_trans hB1 hB2
    clear hB2
    go_wp2_with fail
    go_ret
    exact ⟨rfl, ext_trans hB00.out hB1⟩

end Go.Proofs.Ytepddehodmljeaa
