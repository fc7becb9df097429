/- Walks: NormTrue. -/
import Derived.Test.YtepddehodmljeaaN3
namespace Go.Proofs.Ytepddehodmljeaa
open Go.RowKit Go.Maps

theorem ofR_le {l : Rus} : ∀ (f n : Nat) (t : List Int), (ofR l f n t).2.1 ≤ n + f
  | f, n, t => by
    by_cases hz : stE l t = 0
    · cases hs : stL l t with
      | nil => rw [ofR_end hz hs]; simp
      | cons s r =>
        cases f with
        | zero => rw [ofR_many hz hs]; simp
        | succ f =>
          rw [ofR_step hz hs]
          have := ofR_le f (n + 1) s.2.2 (l := l)
          omega
    · rw [ofR_err hz]; simp
theorem formN_le (l : Rus) (t : List Int) : formN l t ≤ 60 := by
  unfold formN
  split
  · have := ofR_le 60 0 t (l := l); omega
  · omega

set_option maxRecDepth 100000 in
set_option maxHeartbeats 4000000 in
theorem NormTrue_calls (l : Rus) (t : List Int) (v x : Value) (w : World) (hv : IsRules Any w v l) (hx : IsInts Any w x t) : Calls Try.prog 22 #[v, x] w fun e w' => e = .returned (.bool true) ∧ Below w.heap.size w w' := by
  obtain ⟨va, vc, rfl⟩ := hv.isSlice
  obtain ⟨xa, xc, rfl⟩ := hx.isSlice
  by_cases he : formE l t = 0
  · have hh := Lib.hid he
    have hO := Lib.hid (norm_own he)
    have hS0 := norm_steps he
    have hN60 := Lib.hid (formN_le l t)
    clear he
    cases hE0 : stepsL l t with
    | nil =>
      have hE := Lib.hid hE0
      have hS : Hid (stepsE l t = 0 ∧ (formN l t = 0 ∧ formT l t = t) ∧ True) := ⟨hS0.1, hS0.2.1 hE0, trivial⟩
      clear hE0 hS0
      go_enter Try.func22, Try.ntmps22
      go_wp2_with fail
      refine (Form_calls l t _ _ w hv hx).mono ?_
      rintro e w1 ⟨y, rfl, hy, hB1⟩
      replace hv := hv.below RuleR.ok hB1
      replace hx := hx.below hB1
      replace hy := hy.any
      rw [hh.out]
      go_wp2_with fail
      refine (Is_calls l (formT l t) _ _ w1 hv hy).mono ?_
      rintro e w2 ⟨rfl, hB2⟩
      replace hv := hv.below RuleR.ok hB2
      replace hx := hx.below hB2
      replace hy := hy.below hB2
      replace hB1 := ext_trans hB1 hB2
      clear hB2
      rw [hO.out.1, hO.out.2.1]
      go_wp2_with fail
      refine (Form_calls l (formT l t) _ _ w2 hv hy).mono ?_
      rintro e w3 ⟨z, rfl, hz, hB3⟩
      replace hv := hv.below RuleR.ok hB3
      replace hx := hx.below hB3
      replace hy := hy.below hB3
      replace hB1 := ext_trans hB1 hB3
      clear hB3
      replace hz := hz.any
      rw [hO.out.2.2.1, hO.out.2.2.2.2]
      rw [hO.out.2.2.2.1] at hz
      go_wp2_with fail
      refine (SameTerms_eq (formT l t) _ _ w3 hy hz).mono ?_
      rintro e w4 ⟨rfl, hB4⟩
      clear hz
      replace hv := hv.below RuleR.ok hB4
      replace hx := hx.below hB4
      replace hy := hy.below hB4
      replace hB1 := ext_trans hB1 hB4
      clear hB4
      go_wp2_with fail
      refine (Steps_calls l t _ _ w4 hv hx).mono ?_
      rintro e w5 ⟨s, rfl, hs, hB5⟩
      replace hv := hv.below RuleR.ok hB5
      replace hx := hx.below hB5
      replace hy := hy.below hB5
      replace hB1 := ext_trans hB1 hB5
      clear hB5
      rw [hS.out.1]
      rw [hE.out] at hs
      obtain ⟨sa, sc, rfl⟩ := hs.isSlice
      clear hs
      rw [hS.out.2.1.1]
      go_wp2_with fail
      refine (normBegun_calls w5).mono ?_
      rintro e w6 ⟨rfl, hB6⟩
      replace hv := hv.below RuleR.ok hB6
      replace hx := hx.below hB6
      replace hy := hy.below hB6
      replace hB1 := ext_trans hB1 hB6
      clear hB6
      go_wp2_with fail
      refine (SameTerms_eq t _ _ w6 (by have h := hy; rwa [hS.out.2.1.2] at h) hx).mono ?_
      rintro e w7 ⟨rfl, hB7⟩
      replace hv := hv.below RuleR.ok hB7
      replace hx := hx.below hB7
      replace hy := hy.below hB7
      replace hB1 := ext_trans hB1 hB7
      clear hB7
      go_wp2_with fail
      go_ret
      exact ⟨rfl, hB1⟩
    | cons s r =>
      have hE := Lib.hid hE0
      have hS : Hid (stepsE l t = 0 ∧ True ∧ (formE l s.2.2 = 0 ∧ formT l s.2.2 = formT l t) ∧ formN l t = formN l s.2.2 + 1) := ⟨hS0.1, trivial, ⟨(hS0.2.2 s r hE0).1, (hS0.2.2 s r hE0).2.1⟩, (hS0.2.2 s r hE0).2.2⟩
      clear hE0 hS0
      go_enter Try.func22, Try.ntmps22
      go_wp2_with fail
      refine (Form_calls l t _ _ w hv hx).mono ?_
      rintro e w1 ⟨y, rfl, hy, hB1⟩
      replace hv := hv.below RuleR.ok hB1
      replace hx := hx.below hB1
      replace hy := hy.any
      rw [hh.out]
      go_wp2_with fail
      refine (Is_calls l (formT l t) _ _ w1 hv hy).mono ?_
      rintro e w2 ⟨rfl, hB2⟩
      replace hv := hv.below RuleR.ok hB2
      replace hx := hx.below hB2
      replace hy := hy.below hB2
      replace hB1 := ext_trans hB1 hB2
      clear hB2
      rw [hO.out.1, hO.out.2.1]
      go_wp2_with fail
      refine (Form_calls l (formT l t) _ _ w2 hv hy).mono ?_
      rintro e w3 ⟨z, rfl, hz, hB3⟩
      replace hv := hv.below RuleR.ok hB3
      replace hx := hx.below hB3
      replace hy := hy.below hB3
      replace hB1 := ext_trans hB1 hB3
      clear hB3
      replace hz := hz.any
      rw [hO.out.2.2.1, hO.out.2.2.2.2]
      rw [hO.out.2.2.2.1] at hz
      go_wp2_with fail
      refine (SameTerms_eq (formT l t) _ _ w3 hy hz).mono ?_
      rintro e w4 ⟨rfl, hB4⟩
      clear hz
      replace hv := hv.below RuleR.ok hB4
      replace hx := hx.below hB4
      replace hy := hy.below hB4
      replace hB1 := ext_trans hB1 hB4
      clear hB4
      go_wp2_with fail
      refine (Steps_calls l t _ _ w4 hv hx).mono ?_
      rintro e w5 ⟨s, rfl, hs, hB5⟩
      replace hv := hv.below RuleR.ok hB5
      replace hx := hx.below hB5
      replace hy := hy.below hB5
      replace hB1 := ext_trans hB1 hB5
      clear hB5
      rw [hS.out.1]
      rw [hE.out] at hs
      replace hs := hs.mono StepR.ok .toAny
      obtain ⟨b, o, c, u, rfl, hbl, -, -, hcu, hu⟩ := steps_cell hs (j := 0) (by simp)
      simp only [Nat.zero_mul, Nat.add_zero] at hcu
      have hlen : (0 : Int) < (s :: r).length := by simp
      have hlen2 : (((s :: r).length : Int) == 0) = false := by rw [beq_eq_false_iff_ne]; simp; omega
      have hfn : ((formN l t : Int) == 0) = false := by rw [hS.out.2.2.2]; rw [beq_eq_false_iff_ne]; omega
      have hfn2 : (formN l t : Int) - 1 = formN l s.2.2 := by rw [hS.out.2.2.2]; omega
      have hfn3 : (formN l t : Int) ≤ 1000 := by have := hN60.out; omega
      have hfn4 : (0 : Int) ≤ formN l t := by omega
      replace hu : IsInts Any w5 u s.2.2 := hu
      generalize (s :: r) = sr at *
      clear hs
      go_wp2_with fail
      refine (Form_calls l s.2.2 _ _ w5 hv hu).mono ?_
      rintro e w6 ⟨q, rfl, hq, hB6⟩
      clear hu hcu
      replace hv := hv.below RuleR.ok hB6
      replace hx := hx.below hB6
      replace hy := hy.below hB6
      replace hB1 := ext_trans hB1 hB6
      clear hB6
      replace hq := hq.any
      rw [hS.out.2.2.1.1]
      rw [hS.out.2.2.1.2] at hq
      go_wp2_with fail
      refine (normBegun_calls w6).mono ?_
      rintro e w7 ⟨rfl, hB7⟩
      replace hv := hv.below RuleR.ok hB7
      replace hx := hx.below hB7
      replace hy := hy.below hB7
      replace hq := hq.below hB7
      replace hB1 := ext_trans hB1 hB7
      clear hB7
      go_wp2_with fail
      refine (SameTerms_eq (formT l t) _ _ w7 hq hy).mono ?_
      rintro e w8 ⟨rfl, hB8⟩
      replace hv := hv.below RuleR.ok hB8
      replace hx := hx.below hB8
      replace hy := hy.below hB8
      replace hq := hq.below hB8
      replace hB1 := ext_trans hB1 hB8
      clear hB8
      go_wp2_with fail
      go_ret
      exact ⟨rfl, hB1⟩
  · have h' : (formE l t != 0) = true := by simpa using he
    clear he
    go_enter Try.func22, Try.ntmps22
    go_wp2_with fail
    refine (Form_calls l t _ _ w hv hx).mono ?_
    rintro e w1 ⟨y, rfl, hy, hB1⟩
    replace hv := hv.below RuleR.ok hB1
    replace hx := hx.below hB1
    obtain ⟨ya, yc, rfl⟩ := hy.isSlice
    clear hy
    go_wp2_with fail
    refine (normBegun_calls w1).mono ?_
    rintro e w2 ⟨rfl, hB2⟩
    replace hv := hv.below RuleR.ok hB2
    replace hx := hx.below hB2
    replace hB1 := ext_trans hB1 hB2
    clear hB2
    go_wp2_with fail
    go_ret
    exact ⟨rfl, hB1⟩

end Go.Proofs.Ytepddehodmljeaa
