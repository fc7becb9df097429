/- Walks: NormBelow. -/
import Derived.Test.YtepddehodmljeaaF1
namespace Go.Proofs.Ytepddehodmljeaa
open Go.RowKit Go.Maps

set_option maxRecDepth 100000 in
set_option maxHeartbeats 4000000 in
theorem NormBelow_calls (r : List Int) (l : Rus) (t : List Int) (rv v x : Value) (w : World) (hr : IsInts Any w rv r) (hv : IsRules Any w v l) (hx : IsInts Any w x t) :
    Calls Try.prog 28 #[rv, v, x] w fun e w' => e = .returned (.bool true) ∧ Below w.heap.size w w' := by
  obtain ⟨ra, rc, rfl⟩ := hr.isSlice
  obtain ⟨va, vc, rfl⟩ := hv.isSlice
  obtain ⟨xa, xc, rfl⟩ := hx.isSlice
  by_cases he : fallsE r l = 0
  · by_cases hf : formE l t = 0
    · cases hb : fallsB r l
      · have hE : Hid (fallsB r l = false ∧ fallsE r l = 0 ∧ formE l t = 0) := ⟨hb, he, hf⟩
        clear he hf hb
        go_enter Try.func28, Try.ntmps28
        go_wp2_with fail
        refine (Falls_calls r l _ _ w hr hv).mono ?_
        rintro e w1 ⟨rfl, hB1⟩
        replace hr := hr.below hB1
        replace hv := hv.below RuleR.ok hB1
        replace hx := hx.below hB1
        rw [hE.out.1, hE.out.2.1]
        go_wp2_with fail
        refine (Form_calls l t _ _ w1 hv hx).mono ?_
        rintro e w2 ⟨y, rfl, hy, hB2⟩
        replace hr := hr.below hB2
        replace hv := hv.below RuleR.ok hB2
        replace hx := hx.below hB2
        replace hB1 := ext_trans hB1 hB2
        clear hB2
        replace hy := hy.any
        obtain ⟨ya, yc, rfl⟩ := hy.isSlice
        rw [hE.out.2.2]
        go_wp2_with fail
        refine (normBegun_calls w2).mono ?_
        rintro e w3 ⟨rfl, hB3⟩
        clear hr hv hx hy
        replace hB1 := ext_trans hB1 hB3
        clear hB3
        go_wp2_with fail
        go_ret
        exact ⟨rfl, hB1⟩
      · have hE : Hid (fallsB r l = true ∧ fallsE r l = 0 ∧ formE l t = 0) := ⟨hb, he, hf⟩
        obtain ⟨a1, a2, a3⟩ := norm_below hf hb
        by_cases h0 : formN l t = 0
        · have hA : Hid (aboveB r t (formT l t) = false ∧ aboveE r t (formT l t) = 0 ∧ formT l t = t) := ⟨by rw [a2, h0]; rfl, a1, a3 h0⟩
          have hn : (formN l t : Int) = 0 := by omega
          have hn2 : decide (0 < (formN l t : Int)) = false := decide_eq_false (by omega)
          clear he hf hb a1 a2 a3 h0
          go_enter Try.func28, Try.ntmps28
          go_wp2_with fail
          refine (Falls_calls r l _ _ w hr hv).mono ?_
          rintro e w1 ⟨rfl, hB1⟩
          replace hr := hr.below hB1
          replace hv := hv.below RuleR.ok hB1
          replace hx := hx.below hB1
          rw [hE.out.1, hE.out.2.1]
          go_wp2_with fail
          refine (Form_calls l t _ _ w1 hv hx).mono ?_
          rintro e w2 ⟨y, rfl, hy, hB2⟩
          replace hr := hr.below hB2
          replace hv := hv.below RuleR.ok hB2
          replace hx := hx.below hB2
          replace hB1 := ext_trans hB1 hB2
          clear hB2
          replace hy := hy.any
          obtain ⟨ya, yc, rfl⟩ := hy.isSlice
          rw [hE.out.2.2]
          go_wp2_with fail
          refine (Above_calls r t (formT l t) _ _ _ w2 hr hx hy).mono ?_
          rintro e w3 ⟨rfl, hB3⟩
          replace hr := hr.below hB3
          replace hv := hv.below RuleR.ok hB3
          replace hx := hx.below hB3
          replace hy := hy.below hB3
          replace hB1 := ext_trans hB1 hB3
          clear hB3
          rw [hA.out.1, hA.out.2.1]
          go_wp2_with fail
          refine (normBegun_calls w3).mono ?_
          rintro e w4 ⟨rfl, hB4⟩
          replace hr := hr.below hB4
          replace hv := hv.below RuleR.ok hB4
          replace hx := hx.below hB4
          replace hy := hy.below hB4
          replace hB1 := ext_trans hB1 hB4
          clear hB4
          go_wp2_with fail
          refine (SameTerms_eq (formT l t) _ _ w4 hy (by rw [hA.out.2.2]; exact hx)).mono ?_
          rintro e w5 ⟨rfl, hB5⟩
          replace hr := hr.below hB5
          replace hv := hv.below RuleR.ok hB5
          replace hx := hx.below hB5
          replace hy := hy.below hB5
          replace hB1 := ext_trans hB1 hB5
          clear hB5
          go_wp2_with fail
          go_ret
          exact ⟨rfl, hB1⟩
        · have hA : Hid (aboveB r t (formT l t) = true ∧ aboveE r t (formT l t) = 0 ∧ True) := ⟨by rw [a2]; exact decide_eq_true (by omega), a1, trivial⟩
          have hn : (0 : Int) < formN l t := by omega
          have hn2 : decide (0 < (formN l t : Int)) = true := decide_eq_true hn
          clear he hf hb a1 a2 a3 h0
          go_enter Try.func28, Try.ntmps28
          go_wp2_with fail
          refine (Falls_calls r l _ _ w hr hv).mono ?_
          rintro e w1 ⟨rfl, hB1⟩
          replace hr := hr.below hB1
          replace hv := hv.below RuleR.ok hB1
          replace hx := hx.below hB1
          rw [hE.out.1, hE.out.2.1]
          go_wp2_with fail
          refine (Form_calls l t _ _ w1 hv hx).mono ?_
          rintro e w2 ⟨y, rfl, hy, hB2⟩
          replace hr := hr.below hB2
          replace hv := hv.below RuleR.ok hB2
          replace hx := hx.below hB2
          replace hB1 := ext_trans hB1 hB2
          clear hB2
          replace hy := hy.any
          obtain ⟨ya, yc, rfl⟩ := hy.isSlice
          rw [hE.out.2.2]
          go_wp2_with fail
          refine (Above_calls r t (formT l t) _ _ _ w2 hr hx hy).mono ?_
          rintro e w3 ⟨rfl, hB3⟩
          replace hr := hr.below hB3
          replace hv := hv.below RuleR.ok hB3
          replace hx := hx.below hB3
          replace hy := hy.below hB3
          replace hB1 := ext_trans hB1 hB3
          clear hB3
          rw [hA.out.1, hA.out.2.1]
          go_wp2_with fail
          refine (normBegun_calls w3).mono ?_
          rintro e w4 ⟨rfl, hB4⟩
          replace hr := hr.below hB4
          replace hv := hv.below RuleR.ok hB4
          replace hx := hx.below hB4
          replace hy := hy.below hB4
          replace hB1 := ext_trans hB1 hB4
          clear hB4
          go_wp2_with fail
          go_ret
          exact ⟨rfl, hB1⟩
    · have h' : (formE l t != 0) = true := by simpa using hf
      have hE := Lib.hid he
      clear he hf
      go_enter Try.func28, Try.ntmps28
      go_wp2_with fail
      refine (Falls_calls r l _ _ w hr hv).mono ?_
      rintro e w1 ⟨rfl, hB1⟩
      replace hr := hr.below hB1
      replace hv := hv.below RuleR.ok hB1
      replace hx := hx.below hB1
      rw [hE.out]
      go_wp2_with fail
      refine (Form_calls l t _ _ w1 hv hx).mono ?_
      rintro e w2 ⟨y, rfl, hy, hB2⟩
      replace hr := hr.below hB2
      replace hv := hv.below RuleR.ok hB2
      replace hx := hx.below hB2
      replace hB1 := ext_trans hB1 hB2
      clear hB2
      replace hy := hy.any
      obtain ⟨ya, yc, rfl⟩ := hy.isSlice
      go_wp2_with fail
      refine (normBegun_calls w2).mono ?_
      rintro e w3 ⟨rfl, hB3⟩
      clear hr hv hx hy
      replace hB1 := ext_trans hB1 hB3
      clear hB3
      go_wp2_with fail
      go_ret
      exact ⟨rfl, hB1⟩
  · have h' : (fallsE r l != 0) = true := by simpa using he
    clear he
    go_enter Try.func28, Try.ntmps28
    go_wp2_with fail
    refine (Falls_calls r l _ _ w hr hv).mono ?_
    rintro e w1 ⟨rfl, hB1⟩
    replace hr := hr.below hB1
    replace hv := hv.below RuleR.ok hB1
    replace hx := hx.below hB1
    go_wp2_with fail
    refine (Form_calls l t _ _ w1 hv hx).mono ?_
    rintro e w2 ⟨y, rfl, hy, hB2⟩
    replace hr := hr.below hB2
    replace hv := hv.below RuleR.ok hB2
    replace hx := hx.below hB2
    replace hB1 := ext_trans hB1 hB2
    clear hB2
    replace hy := hy.any
    obtain ⟨ya, yc, rfl⟩ := hy.isSlice
    go_wp2_with fail
    refine (normBegun_calls w2).mono ?_
    rintro e w3 ⟨rfl, hB3⟩
    clear hr hv hx hy
    replace hB1 := ext_trans hB1 hB3
    clear hB3
    go_wp2_with fail
    go_ret
    exact ⟨rfl, hB1⟩

end Go.Proofs.Ytepddehodmljeaa
