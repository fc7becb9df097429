/- Walks: JoinSame. -/
import Derived.Test.YtepddehodmljeaaYi
import Derived.Test.YtepddehodmljeaaG8
namespace Go.Proofs.Ytepddehodmljeaa
open Go.RowKit Go.Maps

theorem join_same {fb : Fb} (hfb : FbOk fb) {r : List Int} {l : Rus} {p : Ru} {s : List (List Int)} (h1 : fallsE r l = 0) (h2 : fallsB r l = true) (h3 : jaB fb l = true) (h4 : jpE l p = 0) (h5 : jpB l p = true)
    (a1 : applyE s p.1 = 0) (a2 : applyE s p.2 = 0) (h6 : jpE l (applyT s p.1, applyT s p.2) = 0) : jpB l (applyT s p.1, applyT s p.2) = true := by
  obtain ⟨hrk, hrl, hfl, hpk⟩ := join_peaks hfb h1 h2 h3
  obtain ⟨-, c1, c2, m1⟩ := jpE_zero h4
  obtain ⟨-, d1, d2, m2⟩ := jpE_zero h6
  rw [jpB, Bool.and_eq_true] at h5
  obtain ⟨c, n, m, o1, o2⟩ := mt_both m1 h5.2
  obtain ⟨q1, q2⟩ := mtE_zero m2
  obtain ⟨hs, -, hl1⟩ := applyE_zero a1
  obtain ⟨-, -, hl2⟩ := applyE_zero a2
  have hR := chkS_zero.1 hs
  have e1 : tmOf (applyT s p.1) = (tmOf p.1).inst (sig s) := by rw [(apply_ok hs c1 hl1).2, chk_right_app hR c1]
  have e2 : tmOf (applyT s p.2) = (tmOf p.2).inst (sig s) := by rw [(apply_ok hs c2 hl2).2, chk_right_app hR c2]
  have := same_form hrk hrl hfl hpk (sig_ok hR) c1 c2 d1 d2 o1 o2 e1 e2 q1 q2
  rw [jpB, h6]
  show (true && mtB l _) = true
  rw [Bool.true_and]
  exact decide_eq_true this

set_option maxRecDepth 100000 in
set_option maxHeartbeats 8000000 in
theorem JoinSame_calls (r : List Int) (l : Rus) (p : Ru) (s : List (List Int)) (rv v u x sv : Value) (w : World) (hr : IsInts Any w rv r) (hv : IsRules Any w v l) (hu : IsInts Any w u p.1) (hx : IsInts Any w x p.2) (hs : IsTerms Any w sv s) :
    Calls Try.prog 32 #[rv, v, .agg #[u, x], sv] w fun e w' => e = .returned (.bool true) ∧ Below w.heap.size w w' := by
  obtain ⟨fb, hfb⟩ := exists_fb
  obtain ⟨ra, rc, rfl⟩ := hr.isSlice
  obtain ⟨va, vc, rfl⟩ := hv.isSlice
  obtain ⟨ua, uc, rfl⟩ := hu.isSlice
  obtain ⟨xa, xc, rfl⟩ := hx.isSlice
  obtain ⟨sa, sc, rfl⟩ := hs.isSlice
  have hB00 := Lib.hid (below_alloc w (.cells #[.slice ua p.1.length uc, .slice xa p.2.length xc] 65))
  have hbx : Hid (∀ W, Below (w.alloc (.cells #[.slice ua p.1.length uc, .slice xa p.2.length xc] 65)).heap.size (w.alloc (.cells #[.slice ua p.1.length uc, .slice xa p.2.length xc] 65)) W → W.cell? ⟨w.heap.size, 0, none⟩ = some (.slice ua p.1.length uc) ∧ W.cell? ⟨w.heap.size, 1, none⟩ = some (.slice xa p.2.length xc)) := fun W hb =>
    ⟨(hb.cell (p := ⟨w.heap.size, 0, none⟩) (by simp)).trans (by simp [go_sem]), (hb.cell (p := ⟨w.heap.size, 1, none⟩) (by simp)).trans (by simp [go_sem])⟩
  have hB0 := Below.refl (w.alloc (.cells #[.slice ua p.1.length uc, .slice xa p.2.length xc] 65)).heap.size (w.alloc (.cells #[.slice ua p.1.length uc, .slice xa p.2.length xc] 65))
  replace hr := hr.below hB00.out
  replace hv := hv.below RuleR.ok hB00.out
  replace hu := hu.below hB00.out
  replace hx := hx.below hB00.out
  replace hs := hs.below TermR.ok hB00.out
  go_enter Try.func32, Try.ntmps32
  by_cases e1 : fallsE r l = 0
  · have E1 := Lib.hid e1
    by_cases e2 : jaE fb l = 0
    · have E2 := Lib.hid e2
      by_cases e3 : jpE l p = 0
      · have E3 := Lib.hid e3
        cases b1 : fallsB r l
        · have B1 := Lib.hid b1
          clear e1 e2 e3 b1
          go_wp2_with fail
          refine (Falls_calls r l _ _ (w.alloc _) hr hv).mono ?_
          rintro e w1 ⟨rfl, hB1⟩
          replace hr := hr.below hB1
          replace hv := hv.below RuleR.ok hB1
          replace hu := hu.below hB1
          replace hx := hx.below hB1
          replace hs := hs.below TermR.ok hB1
          replace hB0 := ext_trans hB0 hB1
          clear hB1
          rw [E1.out, B1.out]
          go_wp2_with fail
          refine (JAll_calls hfb l _ w1 hv).mono ?_
          rintro e w2 ⟨rfl, hB2⟩
          replace hr := hr.below hB2
          replace hv := hv.below RuleR.ok hB2
          replace hu := hu.below hB2
          replace hx := hx.below hB2
          replace hs := hs.below TermR.ok hB2
          replace hB0 := ext_trans hB0 hB2
          clear hB2
          rw [E2.out]
          have hcc := hbx.out _ hB0
          obtain ⟨hcc0, hcc1⟩ := hcc
          go_wp2_with fail
          refine (JPair_calls l p _ _ _ w2 hv hu hx).mono ?_
          rintro e w3 ⟨rfl, hB3⟩
          replace hr := hr.below hB3
          replace hv := hv.below RuleR.ok hB3
          replace hu := hu.below hB3
          replace hx := hx.below hB3
          replace hs := hs.below TermR.ok hB3
          replace hB0 := ext_trans hB0 hB3
          clear hB3
          rw [E3.out]
          clear hcc0 hcc1
          clear hr hv hu hx hs
          go_wp2_with fail
          refine (joinBegun_calls w3).mono ?_
          rintro e w4 ⟨rfl, hB4⟩
          replace hB0 := ext_trans hB0 hB4
          clear hB4
          go_wp2_with fail
          go_ret
          exact ⟨rfl, ext_trans hB00.out hB0⟩
        · have B1 := Lib.hid b1
          cases b2 : jaB fb l
          · have B2 := Lib.hid b2
            clear e1 e2 e3 b1 b2
            go_wp2_with fail
            refine (Falls_calls r l _ _ (w.alloc _) hr hv).mono ?_
            rintro e w1 ⟨rfl, hB1⟩
            replace hr := hr.below hB1
            replace hv := hv.below RuleR.ok hB1
            replace hu := hu.below hB1
            replace hx := hx.below hB1
            replace hs := hs.below TermR.ok hB1
            replace hB0 := ext_trans hB0 hB1
            clear hB1
            rw [E1.out, B1.out]
            go_wp2_with fail
            refine (JAll_calls hfb l _ w1 hv).mono ?_
            rintro e w2 ⟨rfl, hB2⟩
            replace hr := hr.below hB2
            replace hv := hv.below RuleR.ok hB2
            replace hu := hu.below hB2
            replace hx := hx.below hB2
            replace hs := hs.below TermR.ok hB2
            replace hB0 := ext_trans hB0 hB2
            clear hB2
            rw [E2.out, B2.out]
            have hcc := hbx.out _ hB0
            obtain ⟨hcc0, hcc1⟩ := hcc
            go_wp2_with fail
            refine (JPair_calls l p _ _ _ w2 hv hu hx).mono ?_
            rintro e w3 ⟨rfl, hB3⟩
            replace hr := hr.below hB3
            replace hv := hv.below RuleR.ok hB3
            replace hu := hu.below hB3
            replace hx := hx.below hB3
            replace hs := hs.below TermR.ok hB3
            replace hB0 := ext_trans hB0 hB3
            clear hB3
            rw [E3.out]
            clear hcc0 hcc1
            clear hr hv hu hx hs
            go_wp2_with fail
            refine (joinBegun_calls w3).mono ?_
            rintro e w4 ⟨rfl, hB4⟩
            replace hB0 := ext_trans hB0 hB4
            clear hB4
            go_wp2_with fail
            go_ret
            exact ⟨rfl, ext_trans hB00.out hB0⟩
          · have B2 := Lib.hid b2
            cases b3 : jpB l p
            · have B3 := Lib.hid b3
              clear e1 e2 e3 b1 b2 b3
              go_wp2_with fail
              refine (Falls_calls r l _ _ (w.alloc _) hr hv).mono ?_
              rintro e w1 ⟨rfl, hB1⟩
              replace hr := hr.below hB1
              replace hv := hv.below RuleR.ok hB1
              replace hu := hu.below hB1
              replace hx := hx.below hB1
              replace hs := hs.below TermR.ok hB1
              replace hB0 := ext_trans hB0 hB1
              clear hB1
              rw [E1.out, B1.out]
              go_wp2_with fail
              refine (JAll_calls hfb l _ w1 hv).mono ?_
              rintro e w2 ⟨rfl, hB2⟩
              replace hr := hr.below hB2
              replace hv := hv.below RuleR.ok hB2
              replace hu := hu.below hB2
              replace hx := hx.below hB2
              replace hs := hs.below TermR.ok hB2
              replace hB0 := ext_trans hB0 hB2
              clear hB2
              rw [E2.out, B2.out]
              have hcc := hbx.out _ hB0
              obtain ⟨hcc0, hcc1⟩ := hcc
              go_wp2_with fail
              refine (JPair_calls l p _ _ _ w2 hv hu hx).mono ?_
              rintro e w3 ⟨rfl, hB3⟩
              replace hr := hr.below hB3
              replace hv := hv.below RuleR.ok hB3
              replace hu := hu.below hB3
              replace hx := hx.below hB3
              replace hs := hs.below TermR.ok hB3
              replace hB0 := ext_trans hB0 hB3
              clear hB3
              rw [E3.out, B3.out]
              clear hcc0 hcc1
              clear hr hv hu hx hs
              go_wp2_with fail
              refine (joinBegun_calls w3).mono ?_
              rintro e w4 ⟨rfl, hB4⟩
              replace hB0 := ext_trans hB0 hB4
              clear hB4
              go_wp2_with fail
              go_ret
              exact ⟨rfl, ext_trans hB00.out hB0⟩
            · have B3 := Lib.hid b3
              have hjs := Lib.hid fun h1 h2 h3 => join_same hfb e1 b1 b2 e3 b3 (s := s) h1 h2 h3
              clear e1 e2 e3 b1 b2 b3
              by_cases a1 : applyE s p.1 = 0
              · have A1 := Lib.hid a1
                by_cases a2 : applyE s p.2 = 0
                · have A2 := Lib.hid a2
                  by_cases j1 : jpE l (applyT s p.1, applyT s p.2) = 0
                  · have J1 := Lib.hid j1
                    have J2 : Hid (jpB l (applyT s p.1, applyT s p.2) = true) := hjs.out a1 a2 j1
                    clear a1 a2 j1
                    go_wp2_with fail
                    refine (Falls_calls r l _ _ (w.alloc _) hr hv).mono ?_
                    rintro e w1 ⟨rfl, hB1⟩
                    replace hr := hr.below hB1
                    replace hv := hv.below RuleR.ok hB1
                    replace hu := hu.below hB1
                    replace hx := hx.below hB1
                    replace hs := hs.below TermR.ok hB1
                    replace hB0 := ext_trans hB0 hB1
                    clear hB1
                    rw [E1.out, B1.out]
                    go_wp2_with fail
                    refine (JAll_calls hfb l _ w1 hv).mono ?_
                    rintro e w2 ⟨rfl, hB2⟩
                    replace hr := hr.below hB2
                    replace hv := hv.below RuleR.ok hB2
                    replace hu := hu.below hB2
                    replace hx := hx.below hB2
                    replace hs := hs.below TermR.ok hB2
                    replace hB0 := ext_trans hB0 hB2
                    clear hB2
                    rw [E2.out, B2.out]
                    have hcc := hbx.out _ hB0
                    obtain ⟨hcc0, hcc1⟩ := hcc
                    go_wp2_with fail
                    refine (JPair_calls l p _ _ _ w2 hv hu hx).mono ?_
                    rintro e w3 ⟨rfl, hB3⟩
                    replace hr := hr.below hB3
                    replace hv := hv.below RuleR.ok hB3
                    replace hu := hu.below hB3
                    replace hx := hx.below hB3
                    replace hs := hs.below TermR.ok hB3
                    replace hB0 := ext_trans hB0 hB3
                    clear hB3
                    rw [E3.out, B3.out]
                    clear hcc0 hcc1
                    have hcc := hbx.out _ hB0
                    obtain ⟨hcc0, hcc1⟩ := hcc
                    go_wp2_with fail
                    refine (Apply_calls s p.1 _ _ w3 hs hu).mono ?_
                    rintro e w4 ⟨a, rfl, ha, hB4⟩
                    replace hr := hr.below hB4
                    replace hv := hv.below RuleR.ok hB4
                    replace hu := hu.below hB4
                    replace hx := hx.below hB4
                    replace hs := hs.below TermR.ok hB4
                    replace hB0 := ext_trans hB0 hB4
                    clear hB4
                    rw [A1.out]
                    replace ha := ha.any
                    obtain ⟨aa, ac, rfl⟩ := ha.isSlice
                    clear hcc0 hcc1
                    have hcc := hbx.out _ hB0
                    obtain ⟨hcc0, hcc1⟩ := hcc
                    go_wp2_with fail
                    refine (Apply_calls s p.2 _ _ w4 hs hx).mono ?_
                    rintro e w5 ⟨b, rfl, hb, hB5⟩
                    replace hr := hr.below hB5
                    replace hv := hv.below RuleR.ok hB5
                    replace hu := hu.below hB5
                    replace hx := hx.below hB5
                    replace hs := hs.below TermR.ok hB5
                    replace ha := ha.below hB5
                    replace hB0 := ext_trans hB0 hB5
                    clear hB5
                    rw [A2.out]
                    replace hb := hb.any
                    obtain ⟨ba, bc, rfl⟩ := hb.isSlice
                    clear hcc0 hcc1
                    go_wp2_with fail
                    refine (JPair_calls l (applyT s p.1, applyT s p.2) _ _ _ w5 hv ha hb).mono ?_
                    rintro e w6 ⟨rfl, hB6⟩
                    replace hr := hr.below hB6
                    replace hv := hv.below RuleR.ok hB6
                    replace hu := hu.below hB6
                    replace hx := hx.below hB6
                    replace hs := hs.below TermR.ok hB6
                    replace ha := ha.below hB6
                    replace hb := hb.below hB6
                    replace hB0 := ext_trans hB0 hB6
                    clear hB6
                    rw [J1.out, J2.out]
                    clear hr hv hu hx hs ha hb
                    go_wp2_with fail
                    refine (joinBegun_calls w6).mono ?_
                    rintro e w7 ⟨rfl, hB7⟩
                    replace hB0 := ext_trans hB0 hB7
                    clear hB7
                    go_wp2_with fail
                    go_ret
                    exact ⟨rfl, ext_trans hB00.out hB0⟩
                  · have j1' : (jpE l (applyT s p.1, applyT s p.2) != 0) = true := by simpa using j1
                    clear a1 a2 j1
                    go_wp2_with fail
                    refine (Falls_calls r l _ _ (w.alloc _) hr hv).mono ?_
                    rintro e w1 ⟨rfl, hB1⟩
                    replace hr := hr.below hB1
                    replace hv := hv.below RuleR.ok hB1
                    replace hu := hu.below hB1
                    replace hx := hx.below hB1
                    replace hs := hs.below TermR.ok hB1
                    replace hB0 := ext_trans hB0 hB1
                    clear hB1
                    rw [E1.out, B1.out]
                    go_wp2_with fail
                    refine (JAll_calls hfb l _ w1 hv).mono ?_
                    rintro e w2 ⟨rfl, hB2⟩
                    replace hr := hr.below hB2
                    replace hv := hv.below RuleR.ok hB2
                    replace hu := hu.below hB2
                    replace hx := hx.below hB2
                    replace hs := hs.below TermR.ok hB2
                    replace hB0 := ext_trans hB0 hB2
                    clear hB2
                    rw [E2.out, B2.out]
                    have hcc := hbx.out _ hB0
                    obtain ⟨hcc0, hcc1⟩ := hcc
                    go_wp2_with fail
                    refine (JPair_calls l p _ _ _ w2 hv hu hx).mono ?_
                    rintro e w3 ⟨rfl, hB3⟩
                    replace hr := hr.below hB3
                    replace hv := hv.below RuleR.ok hB3
                    replace hu := hu.below hB3
                    replace hx := hx.below hB3
                    replace hs := hs.below TermR.ok hB3
                    replace hB0 := ext_trans hB0 hB3
                    clear hB3
                    rw [E3.out, B3.out]
                    clear hcc0 hcc1
                    have hcc := hbx.out _ hB0
                    obtain ⟨hcc0, hcc1⟩ := hcc
                    go_wp2_with fail
                    refine (Apply_calls s p.1 _ _ w3 hs hu).mono ?_
                    rintro e w4 ⟨a, rfl, ha, hB4⟩
                    replace hr := hr.below hB4
                    replace hv := hv.below RuleR.ok hB4
                    replace hu := hu.below hB4
                    replace hx := hx.below hB4
                    replace hs := hs.below TermR.ok hB4
                    replace hB0 := ext_trans hB0 hB4
                    clear hB4
                    rw [A1.out]
                    replace ha := ha.any
                    obtain ⟨aa, ac, rfl⟩ := ha.isSlice
                    clear hcc0 hcc1
                    have hcc := hbx.out _ hB0
                    obtain ⟨hcc0, hcc1⟩ := hcc
                    go_wp2_with fail
                    refine (Apply_calls s p.2 _ _ w4 hs hx).mono ?_
                    rintro e w5 ⟨b, rfl, hb, hB5⟩
                    replace hr := hr.below hB5
                    replace hv := hv.below RuleR.ok hB5
                    replace hu := hu.below hB5
                    replace hx := hx.below hB5
                    replace hs := hs.below TermR.ok hB5
                    replace ha := ha.below hB5
                    replace hB0 := ext_trans hB0 hB5
                    clear hB5
                    rw [A2.out]
                    replace hb := hb.any
                    obtain ⟨ba, bc, rfl⟩ := hb.isSlice
                    clear hcc0 hcc1
                    go_wp2_with fail
                    refine (JPair_calls l (applyT s p.1, applyT s p.2) _ _ _ w5 hv ha hb).mono ?_
                    rintro e w6 ⟨rfl, hB6⟩
                    replace hr := hr.below hB6
                    replace hv := hv.below RuleR.ok hB6
                    replace hu := hu.below hB6
                    replace hx := hx.below hB6
                    replace hs := hs.below TermR.ok hB6
                    replace ha := ha.below hB6
                    replace hb := hb.below hB6
                    replace hB0 := ext_trans hB0 hB6
                    clear hB6
                    clear hr hv hu hx hs ha hb
                    go_wp2_with fail
                    refine (joinBegun_calls w6).mono ?_
                    rintro e w7 ⟨rfl, hB7⟩
                    replace hB0 := ext_trans hB0 hB7
                    clear hB7
                    go_wp2_with fail
                    go_ret
                    exact ⟨rfl, ext_trans hB00.out hB0⟩
                · have a2' : (applyE s p.2 != 0) = true := by simpa using a2
                  clear a1 a2
                  go_wp2_with fail
                  refine (Falls_calls r l _ _ (w.alloc _) hr hv).mono ?_
                  rintro e w1 ⟨rfl, hB1⟩
                  replace hr := hr.below hB1
                  replace hv := hv.below RuleR.ok hB1
                  replace hu := hu.below hB1
                  replace hx := hx.below hB1
                  replace hs := hs.below TermR.ok hB1
                  replace hB0 := ext_trans hB0 hB1
                  clear hB1
                  rw [E1.out, B1.out]
                  go_wp2_with fail
                  refine (JAll_calls hfb l _ w1 hv).mono ?_
                  rintro e w2 ⟨rfl, hB2⟩
                  replace hr := hr.below hB2
                  replace hv := hv.below RuleR.ok hB2
                  replace hu := hu.below hB2
                  replace hx := hx.below hB2
                  replace hs := hs.below TermR.ok hB2
                  replace hB0 := ext_trans hB0 hB2
                  clear hB2
                  rw [E2.out, B2.out]
                  have hcc := hbx.out _ hB0
                  obtain ⟨hcc0, hcc1⟩ := hcc
                  go_wp2_with fail
                  refine (JPair_calls l p _ _ _ w2 hv hu hx).mono ?_
                  rintro e w3 ⟨rfl, hB3⟩
                  replace hr := hr.below hB3
                  replace hv := hv.below RuleR.ok hB3
                  replace hu := hu.below hB3
                  replace hx := hx.below hB3
                  replace hs := hs.below TermR.ok hB3
                  replace hB0 := ext_trans hB0 hB3
                  clear hB3
                  rw [E3.out, B3.out]
                  clear hcc0 hcc1
                  have hcc := hbx.out _ hB0
                  obtain ⟨hcc0, hcc1⟩ := hcc
                  go_wp2_with fail
                  refine (Apply_calls s p.1 _ _ w3 hs hu).mono ?_
                  rintro e w4 ⟨a, rfl, ha, hB4⟩
                  replace hr := hr.below hB4
                  replace hv := hv.below RuleR.ok hB4
                  replace hu := hu.below hB4
                  replace hx := hx.below hB4
                  replace hs := hs.below TermR.ok hB4
                  replace hB0 := ext_trans hB0 hB4
                  clear hB4
                  rw [A1.out]
                  replace ha := ha.any
                  obtain ⟨aa, ac, rfl⟩ := ha.isSlice
                  clear hcc0 hcc1
                  have hcc := hbx.out _ hB0
                  obtain ⟨hcc0, hcc1⟩ := hcc
                  go_wp2_with fail
                  refine (Apply_calls s p.2 _ _ w4 hs hx).mono ?_
                  rintro e w5 ⟨b, rfl, hb, hB5⟩
                  replace hr := hr.below hB5
                  replace hv := hv.below RuleR.ok hB5
                  replace hu := hu.below hB5
                  replace hx := hx.below hB5
                  replace hs := hs.below TermR.ok hB5
                  replace ha := ha.below hB5
                  replace hB0 := ext_trans hB0 hB5
                  clear hB5
                  replace hb := hb.any
                  obtain ⟨ba, bc, rfl⟩ := hb.isSlice
                  clear hcc0 hcc1
                  clear hr hv hu hx hs ha hb
                  go_wp2_with fail
                  refine (joinBegun_calls w5).mono ?_
                  rintro e w6 ⟨rfl, hB6⟩
                  replace hB0 := ext_trans hB0 hB6
                  clear hB6
                  go_wp2_with fail
                  go_ret
                  exact ⟨rfl, ext_trans hB00.out hB0⟩
              · have a1' : (applyE s p.1 != 0) = true := by simpa using a1
                clear a1
                go_wp2_with fail
                refine (Falls_calls r l _ _ (w.alloc _) hr hv).mono ?_
                rintro e w1 ⟨rfl, hB1⟩
                replace hr := hr.below hB1
                replace hv := hv.below RuleR.ok hB1
                replace hu := hu.below hB1
                replace hx := hx.below hB1
                replace hs := hs.below TermR.ok hB1
                replace hB0 := ext_trans hB0 hB1
                clear hB1
                rw [E1.out, B1.out]
                go_wp2_with fail
                refine (JAll_calls hfb l _ w1 hv).mono ?_
                rintro e w2 ⟨rfl, hB2⟩
                replace hr := hr.below hB2
                replace hv := hv.below RuleR.ok hB2
                replace hu := hu.below hB2
                replace hx := hx.below hB2
                replace hs := hs.below TermR.ok hB2
                replace hB0 := ext_trans hB0 hB2
                clear hB2
                rw [E2.out, B2.out]
                have hcc := hbx.out _ hB0
                obtain ⟨hcc0, hcc1⟩ := hcc
                go_wp2_with fail
                refine (JPair_calls l p _ _ _ w2 hv hu hx).mono ?_
                rintro e w3 ⟨rfl, hB3⟩
                replace hr := hr.below hB3
                replace hv := hv.below RuleR.ok hB3
                replace hu := hu.below hB3
                replace hx := hx.below hB3
                replace hs := hs.below TermR.ok hB3
                replace hB0 := ext_trans hB0 hB3
                clear hB3
                rw [E3.out, B3.out]
                clear hcc0 hcc1
                have hcc := hbx.out _ hB0
                obtain ⟨hcc0, hcc1⟩ := hcc
                go_wp2_with fail
                refine (Apply_calls s p.1 _ _ w3 hs hu).mono ?_
                rintro e w4 ⟨a, rfl, ha, hB4⟩
                replace hr := hr.below hB4
                replace hv := hv.below RuleR.ok hB4
                replace hu := hu.below hB4
                replace hx := hx.below hB4
                replace hs := hs.below TermR.ok hB4
                replace hB0 := ext_trans hB0 hB4
                clear hB4
                replace ha := ha.any
                obtain ⟨aa, ac, rfl⟩ := ha.isSlice
                clear hcc0 hcc1
                have hcc := hbx.out _ hB0
                obtain ⟨hcc0, hcc1⟩ := hcc
                go_wp2_with fail
                refine (Apply_calls s p.2 _ _ w4 hs hx).mono ?_
                rintro e w5 ⟨b, rfl, hb, hB5⟩
                replace hr := hr.below hB5
                replace hv := hv.below RuleR.ok hB5
                replace hu := hu.below hB5
                replace hx := hx.below hB5
                replace hs := hs.below TermR.ok hB5
                replace ha := ha.below hB5
                replace hB0 := ext_trans hB0 hB5
                clear hB5
                replace hb := hb.any
                obtain ⟨ba, bc, rfl⟩ := hb.isSlice
                clear hcc0 hcc1
                clear hr hv hu hx hs ha hb
                go_wp2_with fail
                refine (joinBegun_calls w5).mono ?_
                rintro e w6 ⟨rfl, hB6⟩
                replace hB0 := ext_trans hB0 hB6
                clear hB6
                go_wp2_with fail
                go_ret
                exact ⟨rfl, ext_trans hB00.out hB0⟩
      · have e3' : (jpE l p != 0) = true := by simpa using e3
        clear e1 e2 e3
        go_wp2_with fail
        refine (Falls_calls r l _ _ (w.alloc _) hr hv).mono ?_
        rintro e w1 ⟨rfl, hB1⟩
        replace hr := hr.below hB1
        replace hv := hv.below RuleR.ok hB1
        replace hu := hu.below hB1
        replace hx := hx.below hB1
        replace hs := hs.below TermR.ok hB1
        replace hB0 := ext_trans hB0 hB1
        clear hB1
        rw [E1.out]
        go_wp2_with fail
        refine (JAll_calls hfb l _ w1 hv).mono ?_
        rintro e w2 ⟨rfl, hB2⟩
        replace hr := hr.below hB2
        replace hv := hv.below RuleR.ok hB2
        replace hu := hu.below hB2
        replace hx := hx.below hB2
        replace hs := hs.below TermR.ok hB2
        replace hB0 := ext_trans hB0 hB2
        clear hB2
        rw [E2.out]
        have hcc := hbx.out _ hB0
        obtain ⟨hcc0, hcc1⟩ := hcc
        go_wp2_with fail
        refine (JPair_calls l p _ _ _ w2 hv hu hx).mono ?_
        rintro e w3 ⟨rfl, hB3⟩
        replace hr := hr.below hB3
        replace hv := hv.below RuleR.ok hB3
        replace hu := hu.below hB3
        replace hx := hx.below hB3
        replace hs := hs.below TermR.ok hB3
        replace hB0 := ext_trans hB0 hB3
        clear hB3
        clear hcc0 hcc1
        clear hr hv hu hx hs
        go_wp2_with fail
        refine (joinBegun_calls w3).mono ?_
        rintro e w4 ⟨rfl, hB4⟩
        replace hB0 := ext_trans hB0 hB4
        clear hB4
        go_wp2_with fail
        go_ret
        exact ⟨rfl, ext_trans hB00.out hB0⟩
    · have e2' : (jaE fb l != 0) = true := by simpa using e2
      clear e1 e2
      go_wp2_with fail
      refine (Falls_calls r l _ _ (w.alloc _) hr hv).mono ?_
      rintro e w1 ⟨rfl, hB1⟩
      replace hr := hr.below hB1
      replace hv := hv.below RuleR.ok hB1
      replace hu := hu.below hB1
      replace hx := hx.below hB1
      replace hs := hs.below TermR.ok hB1
      replace hB0 := ext_trans hB0 hB1
      clear hB1
      rw [E1.out]
      go_wp2_with fail
      refine (JAll_calls hfb l _ w1 hv).mono ?_
      rintro e w2 ⟨rfl, hB2⟩
      replace hr := hr.below hB2
      replace hv := hv.below RuleR.ok hB2
      replace hu := hu.below hB2
      replace hx := hx.below hB2
      replace hs := hs.below TermR.ok hB2
      replace hB0 := ext_trans hB0 hB2
      clear hB2
      have hcc := hbx.out _ hB0
      obtain ⟨hcc0, hcc1⟩ := hcc
      go_wp2_with fail
      refine (JPair_calls l p _ _ _ w2 hv hu hx).mono ?_
      rintro e w3 ⟨rfl, hB3⟩
      replace hr := hr.below hB3
      replace hv := hv.below RuleR.ok hB3
      replace hu := hu.below hB3
      replace hx := hx.below hB3
      replace hs := hs.below TermR.ok hB3
      replace hB0 := ext_trans hB0 hB3
      clear hB3
      clear hcc0 hcc1
      clear hr hv hu hx hs
      go_wp2_with fail
      refine (joinBegun_calls w3).mono ?_
      rintro e w4 ⟨rfl, hB4⟩
      replace hB0 := ext_trans hB0 hB4
      clear hB4
      go_wp2_with fail
      go_ret
      exact ⟨rfl, ext_trans hB00.out hB0⟩
  · have e1' : (fallsE r l != 0) = true := by simpa using e1
    clear e1
    go_wp2_with fail
    refine (Falls_calls r l _ _ (w.alloc _) hr hv).mono ?_
    rintro e w1 ⟨rfl, hB1⟩
    replace hr := hr.below hB1
    replace hv := hv.below RuleR.ok hB1
    replace hu := hu.below hB1
    replace hx := hx.below hB1
    replace hs := hs.below TermR.ok hB1
    replace hB0 := ext_trans hB0 hB1
    clear hB1
    go_wp2_with fail
    refine (JAll_calls hfb l _ w1 hv).mono ?_
    rintro e w2 ⟨rfl, hB2⟩
    replace hr := hr.below hB2
    replace hv := hv.below RuleR.ok hB2
    replace hu := hu.below hB2
    replace hx := hx.below hB2
    replace hs := hs.below TermR.ok hB2
    replace hB0 := ext_trans hB0 hB2
    clear hB2
    have hcc := hbx.out _ hB0
    obtain ⟨hcc0, hcc1⟩ := hcc
    go_wp2_with fail
    refine (JPair_calls l p _ _ _ w2 hv hu hx).mono ?_
    rintro e w3 ⟨rfl, hB3⟩
    replace hr := hr.below hB3
    replace hv := hv.below RuleR.ok hB3
    replace hu := hu.below hB3
    replace hx := hx.below hB3
    replace hs := hs.below TermR.ok hB3
    replace hB0 := ext_trans hB0 hB3
    clear hB3
    clear hcc0 hcc1
    clear hr hv hu hx hs
    go_wp2_with fail
    refine (joinBegun_calls w3).mono ?_
    rintro e w4 ⟨rfl, hB4⟩
    replace hB0 := ext_trans hB0 hB4
    clear hB4
    go_wp2_with fail
    go_ret
    exact ⟨rfl, ext_trans hB00.out hB0⟩

end Go.Proofs.Ytepddehodmljeaa
