/- Walks: JoinTrue. -/
import Derived.Test.YtepddehodmljeaaYh
import Derived.Test.YtepddehodmljeaaF5
namespace Go.Proofs.Ytepddehodmljeaa
open Go.RowKit Go.Maps

theorem join_peaks {fb : Fb} (hfb : FbOk fb) {r : List Int} {l : Rus} (h1 : fallsE r l = 0) (h2 : fallsB r l = true) (h3 : jaB fb l = true) : rankE r = 0 ∧ Rul l ∧ fallsL r l = true ∧ Peaks (rkF r) (trl l) := by
  obtain ⟨hr, hl⟩ := fallsE_zero h1
  rw [fallsB, Bool.and_eq_true] at h2
  rw [jaB, Bool.and_eq_true] at h3
  obtain ⟨-, g2, g3⟩ := pev_zero (of_decide_eq_true h3.1)
  refine ⟨hr, hl, h2.2, peaks_all hfb hl h2.2 g2 ?_⟩
  rw [← g3]
  exact allR_yes.1 h3.2
theorem Rt.snoc {R : Rl} {a b c : Tm} (h : Rt R a b) (k : Rw R b c) : Rt R a c := h.trans (.one k)
theorem step_on {l : Rus} {t tn : List Int} (hl : Rul l) (ht : chk tn = 0) (hr : Rt (trl l) (tmOf t) (tmOf tn)) (he : stepsE l tn = 0) {j : Nat} (hj : j < (stepsL l tn).length) :
    chk (nthS (stepsL l tn) j).2.2 = 0 ∧ Rt (trl l) (tmOf t) (tmOf (nthS (stepsL l tn) j).2.2) := by
  have ha := askE_of hl ht
  have he' : stE l tn = 0 := by rw [stepsE, if_pos ha] at he; exact he
  have hL : stepsL l tn = stL l tn := by rw [stepsL, if_pos ha]
  have hm : nthS (stepsL l tn) j ∈ stL l tn := by rw [← hL]; exact nthS_mem hj
  refine ⟨step_chk' hl ht he' hm, hr.snoc ?_⟩
  rw [(stL_of he').1] at hm
  exact step_rw hl ht hm
theorem stepsL_le' {l : Rus} {t : List Int} (hl : Rul l) (ht : chk t = 0) : (stepsL l t).length ≤ 240 := by
  unfold stepsL stL
  split
  · split
    · simp
    · have := allP_len l t hl.1 t.length
      have := len_of_chk ht
      omega
  · simp
theorem IsInts.cell' {S : Blk} {w : World} {v : Value} {t : List Int} (h : IsInts S w v t) {j : Nat} (hj : j < t.length) : ∃ b o c, v = .slice (some ⟨b, o, none⟩) t.length c ∧ w.cell? ⟨b, o + j, none⟩ = some (.int .i64 (nth t j)) := by
  obtain ⟨b, o, c, rfl⟩ := h.cells (by intro e; rw [e] at hj; simp at hj)
  exact ⟨b, o, c, rfl, h.cell hj⟩

set_option maxRecDepth 100000 in
set_option maxHeartbeats 8000000 in
theorem JoinTrue_calls (r : List Int) (l : Rus) (t q : List Int) (rv v x qv : Value) (w : World) (hr : IsInts Any w rv r) (hv : IsRules Any w v l) (hx : IsInts Any w x t) (hq : IsInts Any w qv q) (hqb : ∀ n ∈ q, -9223372036854775808 ≤ n ∧ n ≤ 9223372036854775807) :
    Calls Try.prog 29 #[rv, v, x, qv] w fun e w' => e = .returned (.bool true) ∧ Below w.heap.size w w' := by
  obtain ⟨fb, hfb⟩ := exists_fb
  obtain ⟨ra, rc, rfl⟩ := hr.isSlice
  obtain ⟨va, vc, rfl⟩ := hv.isSlice
  obtain ⟨xa, xc, rfl⟩ := hx.isSlice
  obtain ⟨qa, qc, rfl⟩ := hq.isSlice
  have HQB := Lib.hid hqb
  clear hqb
  go_enter Try.func29, Try.ntmps29
  by_cases e1 : fallsE r l = 0
  · have E1 := Lib.hid e1
    by_cases e2 : jaE fb l = 0
    · have E2 := Lib.hid e2
      by_cases e3 : formE l t = 0
      · have E3 := Lib.hid e3
        cases b1 : fallsB r l
        · have B1 := Lib.hid b1
          clear e1 e2 e3 b1
          go_wp2_with fail
          refine (Falls_calls r l _ _ w hr hv).mono ?_
          rintro e w1 ⟨rfl, hB1⟩
          replace hr := hr.below hB1
          replace hv := hv.below RuleR.ok hB1
          replace hx := hx.below hB1
          replace hq := hq.below hB1
          rw [E1.out, B1.out]
          go_wp2_with fail
          refine (JAll_calls hfb l _ w1 hv).mono ?_
          rintro e w2 ⟨rfl, hB2⟩
          replace hr := hr.below hB2
          replace hv := hv.below RuleR.ok hB2
          replace hx := hx.below hB2
          replace hq := hq.below hB2
          replace hB1 := ext_trans hB1 hB2
          clear hB2
          rw [E2.out]
          go_wp2_with fail
          refine (Form_calls l t _ _ w2 hv hx).mono ?_
          rintro e w3 ⟨y, rfl, hy, hB3⟩
          replace hr := hr.below hB3
          replace hv := hv.below RuleR.ok hB3
          replace hx := hx.below hB3
          replace hq := hq.below hB3
          replace hB1 := ext_trans hB1 hB3
          clear hB3
          replace hy := hy.any
          obtain ⟨ya, yc, rfl⟩ := hy.isSlice
          rw [E3.out]
          clear hr hv hx hq hy
          go_wp2_with fail
          refine (joinBegun_calls w3).mono ?_
          rintro e w4 ⟨rfl, hB4⟩
          replace hB1 := ext_trans hB1 hB4
          clear hB4
          go_wp2_with fail
          go_ret
          exact ⟨rfl, hB1⟩
        · have B1 := Lib.hid b1
          cases b2 : jaB fb l
          · have B2 := Lib.hid b2
            clear e1 e2 e3 b1 b2
            go_wp2_with fail
            refine (Falls_calls r l _ _ w hr hv).mono ?_
            rintro e w1 ⟨rfl, hB1⟩
            replace hr := hr.below hB1
            replace hv := hv.below RuleR.ok hB1
            replace hx := hx.below hB1
            replace hq := hq.below hB1
            rw [E1.out, B1.out]
            go_wp2_with fail
            refine (JAll_calls hfb l _ w1 hv).mono ?_
            rintro e w2 ⟨rfl, hB2⟩
            replace hr := hr.below hB2
            replace hv := hv.below RuleR.ok hB2
            replace hx := hx.below hB2
            replace hq := hq.below hB2
            replace hB1 := ext_trans hB1 hB2
            clear hB2
            rw [E2.out, B2.out]
            go_wp2_with fail
            refine (Form_calls l t _ _ w2 hv hx).mono ?_
            rintro e w3 ⟨y, rfl, hy, hB3⟩
            replace hr := hr.below hB3
            replace hv := hv.below RuleR.ok hB3
            replace hx := hx.below hB3
            replace hq := hq.below hB3
            replace hB1 := ext_trans hB1 hB3
            clear hB3
            replace hy := hy.any
            obtain ⟨ya, yc, rfl⟩ := hy.isSlice
            rw [E3.out]
            clear hr hv hx hq hy
            go_wp2_with fail
            refine (joinBegun_calls w3).mono ?_
            rintro e w4 ⟨rfl, hB4⟩
            replace hB1 := ext_trans hB1 hB4
            clear hB4
            go_wp2_with fail
            go_ret
            exact ⟨rfl, hB1⟩
          · have B2 := Lib.hid b2
            obtain ⟨hrk, hrl, hfl, hpk⟩ := join_peaks hfb e1 b1 b2
            have hl := Lib.hid hrl
            have hct := Lib.hid (askE_zero (form_zero e3).1).2
            have hone : Hid (∀ tn, chk tn = 0 → Rt (trl l) (tmOf t) (tmOf tn) → formE l tn = 0 → formT l tn = formT l t) := fun tn hc hrt hf => one_form hrk hrl hfl hpk hc hct.out (tm_chk hct.out).1 hrt (.refl _) (form_zero hf).2 (form_zero e3).2
            clear e1 e2 e3 b1 b2 hrk hrl hfl hpk
            go_wp2_with fail
            refine (Falls_calls r l _ _ w hr hv).mono ?_
            rintro e w1 ⟨rfl, hB1⟩
            replace hr := hr.below hB1
            replace hv := hv.below RuleR.ok hB1
            replace hx := hx.below hB1
            replace hq := hq.below hB1
            rw [E1.out, B1.out]
            go_wp2_with fail
            refine (JAll_calls hfb l _ w1 hv).mono ?_
            rintro e w2 ⟨rfl, hB2⟩
            replace hr := hr.below hB2
            replace hv := hv.below RuleR.ok hB2
            replace hx := hx.below hB2
            replace hq := hq.below hB2
            replace hB1 := ext_trans hB1 hB2
            clear hB2
            rw [E2.out, B2.out]
            go_wp2_with fail
            refine (Form_calls l t _ _ w2 hv hx).mono ?_
            rintro e w3 ⟨y, rfl, hy, hB3⟩
            replace hr := hr.below hB3
            replace hv := hv.below RuleR.ok hB3
            replace hx := hx.below hB3
            replace hq := hq.below hB3
            replace hB1 := ext_trans hB1 hB3
            clear hB3
            replace hy := hy.any
            obtain ⟨ya, yc, rfl⟩ := hy.isSlice
            rw [E3.out]
            have HV := Lib.hid hv
            have HX := Lib.hid hx
            have HQ := Lib.hid hq
            have HY := Lib.hid hy
            have HB := Lib.hid hB1
            clear hr hv hx hq hy hB1
            go_wp2_with fail
            go_loopw [16, 17] (fun s16 s17 wr => ∃ (k : Nat) (tn : List Int) (na : Option Addr) (nc : Nat), k ≤ q.length ∧ k ≤ 60 ∧ s17 = .int .i64 k ∧ s16 = .slice na tn.length nc ∧ Hid (IsInts Any wr (.slice na tn.length nc) tn ∧ chk tn = 0 ∧ Rt (trl l) (tmOf t) (tmOf tn)) ∧ Hid (Below w3.heap.size w3 wr)) (fun _ s17 _ => q.length - (intOf s17).toNat)
            case atStart => exact ⟨0, t, _, _, Nat.zero_le _, by omega, rfl, rfl, ⟨HX.out, hct.out, .refl _⟩, .refl _ _⟩
            case round =>
              rename World => wr
              obtain ⟨k, tn, na, nc, hk, hk60, rfl, rfl, hK, hB⟩ := hrel
              by_cases hlk : k < q.length
              · have hkk : (k : Int) < q.length := by omega
                by_cases hk6 : k < 60
                · have hk6' : (k : Int) < 60 := by omega
                  have hSt := Lib.hid (Steps_calls l tn _ _ wr (HV.out.below RuleR.ok hB.out) hK.out.1)
                  have hcq := (HQ.out.below hB.out).cell' hlk
                  obtain ⟨qb, qo, qd, eq0, hcq⟩ := hcq
                  cases eq0
                  have hzb := HQB.out _ (nth_mem hlk)
                  generalize hqz : nth q k = z at *
                  clear hqz
                  by_cases hse : stepsE l tn = 0
                  · have HSE := Lib.hid hse
                    cases hsl : stepsL l tn with
                    | nil =>
                      have HSL := Lib.hid hsl
                      clear hse hsl
                      go_wp2_with fail
                      refine hSt.out.mono ?_
                      rintro e ws ⟨s, rfl, hs, hbs⟩
                      obtain ⟨sa, sc, rfl⟩ := hs.isSlice
                      rw [HSE.out, HSL.out]
                      have hKs := Lib.hid (hK.out.1.below hbs)
                      clear hs
                      have hBs := Lib.hid (ext_trans hB.out hbs)
                      have hFm := Lib.hid (Form_calls l tn _ _ ws (HV.out.below RuleR.ok hBs.out) hKs.out)
                      go_wp2_with fail
                      refine hFm.out.mono ?_
                      rintro e wf ⟨z, rfl, hz, hbf⟩
                      obtain ⟨za, zc, rfl⟩ := hz.isSlice
                      have hZ := Lib.hid hz.any
                      have hBf := Lib.hid (ext_trans hBs.out hbf)
                      clear hz hbf hFm
                      by_cases hf : formE l tn = 0
                      · have hsame : Hid (formT l tn = formT l t) := hone.out tn hK.out.2.1 hK.out.2.2 hf
                        have HF := Lib.hid hf
                        clear hf
                        rw [HF.out]
                        go_wp2_with fail
                        refine (joinBegun_calls wf).mono ?_
                        rintro e wg ⟨rfl, hbg⟩
                        have hSm := Lib.hid (SameTerms_eq (formT l t) _ _ wg (HY.out.below (ext_trans hBf.out hbg)) (by have := hZ.out.below hbg; rw [hsame.out] at this; exact this))
                        rw [hsame.out]
                        go_wp2_with fail
                        refine hSm.out.mono ?_
                        rintro e wh ⟨rfl, hbh⟩
                        go_wp2_with fail
                        go_ret
                        exact ⟨rfl, ext_trans HB.out (ext_trans (ext_trans hBf.out hbg) hbh)⟩
                      · have hf' : (formE l tn != 0) = true := by simpa using hf
                        clear hf
                        go_wp2_with fail
                        refine (joinBegun_calls wf).mono ?_
                        rintro e wg ⟨rfl, hbg⟩
                        go_wp2_with fail
                        go_ret
                        exact ⟨rfl, ext_trans HB.out (ext_trans hBf.out hbg)⟩
                    | cons s0 sl =>
                      have hlen : 0 < (stepsL l tn).length := by rw [hsl]; simp
                      have hmem : ∀ j, j < (stepsL l tn).length → chk (nthS (stepsL l tn) j).2.2 = 0 ∧ Rt (trl l) (tmOf t) (tmOf (nthS (stepsL l tn) j).2.2) := fun j hj => step_on hl.out hK.out.2.1 hK.out.2.2 hse hj
                      have HM := Lib.hid hmem
                      have hl240 := Lib.hid (stepsL_le' hl.out hK.out.2.1)
                      clear hse hsl hmem
                      generalize stepsL l tn = ss at *
                      have hl240' := hl240.out
                      have hssn : (ss.length : Int) ≤ 240 := by omega
                      have hss0 : (0 : Int) < ss.length := by omega
                      go_wp2_with fail
                      refine hSt.out.mono ?_
                      rintro e ws ⟨s, rfl, hs, hbs⟩
                      have hs' := IsRow.mono StepR.ok hs .toAny
                      rw [HSE.out]
                      obtain ⟨hat1, hat2⟩ := chs_lt (c := z) (n := ss.length) hss0
                      have hCH := Lib.hid (choose_calls z ss.length (by omega) hzb.1 hzb.2 ws)
                      generalize chs z ss.length = at0 at *
                      obtain ⟨m, rfl⟩ : ∃ m : Nat, at0 = m := ⟨at0.toNat, by omega⟩
                      have hm : m < ss.length := by omega
                      obtain ⟨sb, so, sc, zz, e1, hbl, hc1, hc2, hc3, hzz⟩ := steps_cell hs' hm
                      cases e1
                      obtain ⟨za, zc, rfl⟩ := hzz.isSlice
                      obtain ⟨g1, g2⟩ := HM.out m hm
                      have hKn : Hid (IsInts Any ws (.slice za (nthS ss m).2.2.length zc) (nthS ss m).2.2 ∧ chk (nthS ss m).2.2 = 0 ∧ Rt (trl l) (tmOf t) (tmOf (nthS ss m).2.2)) := ⟨hzz, g1, g2⟩
                      have hBs := Lib.hid (ext_trans hB.out hbs)
                      have hcq2 := (hbs.cell (p := ⟨qb, qo + k, none⟩) (World.block_lt_of_cell? _ _ hcq)).trans hcq
                      have hss00 : ((ss.length : Int) == 0) = false := by rw [beq_eq_false_iff_ne]; omega
                      clear hs hs' hzz g1 g2
                      go_wp2_with fail
                      refine hCH.out.mono ?_
                      rintro e w' ⟨rfl, rfl⟩
                      go_wp2_with fail
                      go_roundw
                      case rel => exact ⟨k + 1, (nthS ss m).2.2, za, zc, by omega, by omega, by go_num, rfl, hKn.out, hBs.out⟩
                      case measure => simp [intOf]; omega
                  · have hse' : (stepsE l tn != 0) = true := by simpa using hse
                    clear hse
                    go_wp2_with fail
                    refine hSt.out.mono ?_
                    rintro e ws ⟨s, rfl, -, hbs⟩
                    go_wp2_with fail
                    refine (joinBegun_calls ws).mono ?_
                    rintro e wg ⟨rfl, hbg⟩
                    go_wp2_with fail
                    go_ret
                    exact ⟨rfl, ext_trans HB.out (ext_trans (ext_trans hB.out hbs) hbg)⟩
                · have hk6' : ¬ (k : Int) < 60 := by omega
                  have hk7 : decide ((k : Int) < 60) = false := decide_eq_false hk6'
                  have hFm := Lib.hid (Form_calls l tn _ _ wr (HV.out.below RuleR.ok hB.out) hK.out.1)
                  go_wp2_with fail
                  refine hFm.out.mono ?_
                  rintro e wf ⟨z, rfl, hz, hbf⟩
                  obtain ⟨za, zc, rfl⟩ := hz.isSlice
                  have hZ := Lib.hid hz.any
                  have hBf := Lib.hid (ext_trans hB.out hbf)
                  clear hz hbf hFm
                  by_cases hf : formE l tn = 0
                  · have hsame : Hid (formT l tn = formT l t) := hone.out tn hK.out.2.1 hK.out.2.2 hf
                    have HF := Lib.hid hf
                    clear hf
                    rw [HF.out]
                    go_wp2_with fail
                    refine (joinBegun_calls wf).mono ?_
                    rintro e wg ⟨rfl, hbg⟩
                    have hSm := Lib.hid (SameTerms_eq (formT l t) _ _ wg (HY.out.below (ext_trans hBf.out hbg)) (by have := hZ.out.below hbg; rw [hsame.out] at this; exact this))
                    rw [hsame.out]
                    go_wp2_with fail
                    refine hSm.out.mono ?_
                    rintro e wh ⟨rfl, hbh⟩
                    go_wp2_with fail
                    go_ret
                    exact ⟨rfl, ext_trans HB.out (ext_trans (ext_trans hBf.out hbg) hbh)⟩
                  · have hf' : (formE l tn != 0) = true := by simpa using hf
                    clear hf
                    go_wp2_with fail
                    refine (joinBegun_calls wf).mono ?_
                    rintro e wg ⟨rfl, hbg⟩
                    go_wp2_with fail
                    go_ret
                    exact ⟨rfl, ext_trans HB.out (ext_trans hBf.out hbg)⟩
              · have hkk : ¬ (k : Int) < q.length := by omega
                have hkd : decide ((k : Int) < q.length) = false := decide_eq_false hkk
                have hFm := Lib.hid (Form_calls l tn _ _ wr (HV.out.below RuleR.ok hB.out) hK.out.1)
                go_wp2_with fail
                refine hFm.out.mono ?_
                rintro e wf ⟨z, rfl, hz, hbf⟩
                obtain ⟨za, zc, rfl⟩ := hz.isSlice
                have hZ := Lib.hid hz.any
                have hBf := Lib.hid (ext_trans hB.out hbf)
                clear hz hbf hFm
                by_cases hf : formE l tn = 0
                · have hsame : Hid (formT l tn = formT l t) := hone.out tn hK.out.2.1 hK.out.2.2 hf
                  have HF := Lib.hid hf
                  clear hf
                  rw [HF.out]
                  go_wp2_with fail
                  refine (joinBegun_calls wf).mono ?_
                  rintro e wg ⟨rfl, hbg⟩
                  have hSm := Lib.hid (SameTerms_eq (formT l t) _ _ wg (HY.out.below (ext_trans hBf.out hbg)) (by have := hZ.out.below hbg; rw [hsame.out] at this; exact this))
                  rw [hsame.out]
                  go_wp2_with fail
                  refine hSm.out.mono ?_
                  rintro e wh ⟨rfl, hbh⟩
                  go_wp2_with fail
                  go_ret
                  exact ⟨rfl, ext_trans HB.out (ext_trans (ext_trans hBf.out hbg) hbh)⟩
                · have hf' : (formE l tn != 0) = true := by simpa using hf
                  clear hf
                  go_wp2_with fail
                  refine (joinBegun_calls wf).mono ?_
                  rintro e wg ⟨rfl, hbg⟩
                  go_wp2_with fail
                  go_ret
                  exact ⟨rfl, ext_trans HB.out (ext_trans hBf.out hbg)⟩
      · have e3' : (formE l t != 0) = true := by simpa using e3
        clear e1 e2 e3
        go_wp2_with fail
        refine (Falls_calls r l _ _ w hr hv).mono ?_
        rintro e w1 ⟨rfl, hB1⟩
        replace hr := hr.below hB1
        replace hv := hv.below RuleR.ok hB1
        replace hx := hx.below hB1
        replace hq := hq.below hB1
        rw [E1.out]
        go_wp2_with fail
        refine (JAll_calls hfb l _ w1 hv).mono ?_
        rintro e w2 ⟨rfl, hB2⟩
        replace hr := hr.below hB2
        replace hv := hv.below RuleR.ok hB2
        replace hx := hx.below hB2
        replace hq := hq.below hB2
        replace hB1 := ext_trans hB1 hB2
        clear hB2
        rw [E2.out]
        go_wp2_with fail
        refine (Form_calls l t _ _ w2 hv hx).mono ?_
        rintro e w3 ⟨y, rfl, hy, hB3⟩
        replace hr := hr.below hB3
        replace hv := hv.below RuleR.ok hB3
        replace hx := hx.below hB3
        replace hq := hq.below hB3
        replace hB1 := ext_trans hB1 hB3
        clear hB3
        replace hy := hy.any
        obtain ⟨ya, yc, rfl⟩ := hy.isSlice
        clear hr hv hx hq hy
        go_wp2_with fail
        refine (joinBegun_calls w3).mono ?_
        rintro e w4 ⟨rfl, hB4⟩
        replace hB1 := ext_trans hB1 hB4
        clear hB4
        go_wp2_with fail
        go_ret
        exact ⟨rfl, hB1⟩
    · have e2' : (jaE fb l != 0) = true := by simpa using e2
      clear e1 e2
      go_wp2_with fail
      refine (Falls_calls r l _ _ w hr hv).mono ?_
      rintro e w1 ⟨rfl, hB1⟩
      replace hr := hr.below hB1
      replace hv := hv.below RuleR.ok hB1
      replace hx := hx.below hB1
      replace hq := hq.below hB1
      rw [E1.out]
      go_wp2_with fail
      refine (JAll_calls hfb l _ w1 hv).mono ?_
      rintro e w2 ⟨rfl, hB2⟩
      replace hr := hr.below hB2
      replace hv := hv.below RuleR.ok hB2
      replace hx := hx.below hB2
      replace hq := hq.below hB2
      replace hB1 := ext_trans hB1 hB2
      clear hB2
      go_wp2_with fail
      refine (Form_calls l t _ _ w2 hv hx).mono ?_
      rintro e w3 ⟨y, rfl, hy, hB3⟩
      replace hr := hr.below hB3
      replace hv := hv.below RuleR.ok hB3
      replace hx := hx.below hB3
      replace hq := hq.below hB3
      replace hB1 := ext_trans hB1 hB3
      clear hB3
      replace hy := hy.any
      obtain ⟨ya, yc, rfl⟩ := hy.isSlice
      clear hr hv hx hq hy
      go_wp2_with fail
      refine (joinBegun_calls w3).mono ?_
      rintro e w4 ⟨rfl, hB4⟩
      replace hB1 := ext_trans hB1 hB4
      clear hB4
      go_wp2_with fail
      go_ret
      exact ⟨rfl, hB1⟩
  · have e1' : (fallsE r l != 0) = true := by simpa using e1
    clear e1
    go_wp2_with fail
    refine (Falls_calls r l _ _ w hr hv).mono ?_
    rintro e w1 ⟨rfl, hB1⟩
    replace hr := hr.below hB1
    replace hv := hv.below RuleR.ok hB1
    replace hx := hx.below hB1
    replace hq := hq.below hB1
    go_wp2_with fail
    refine (JAll_calls hfb l _ w1 hv).mono ?_
    rintro e w2 ⟨rfl, hB2⟩
    replace hr := hr.below hB2
    replace hv := hv.below RuleR.ok hB2
    replace hx := hx.below hB2
    replace hq := hq.below hB2
    replace hB1 := ext_trans hB1 hB2
    clear hB2
    go_wp2_with fail
    refine (Form_calls l t _ _ w2 hv hx).mono ?_
    rintro e w3 ⟨y, rfl, hy, hB3⟩
    replace hr := hr.below hB3
    replace hv := hv.below RuleR.ok hB3
    replace hx := hx.below hB3
    replace hq := hq.below hB3
    replace hB1 := ext_trans hB1 hB3
    clear hB3
    replace hy := hy.any
    obtain ⟨ya, yc, rfl⟩ := hy.isSlice
    clear hr hv hx hq hy
    go_wp2_with fail
    refine (joinBegun_calls w3).mono ?_
    rintro e w4 ⟨rfl, hB4⟩
    replace hB1 := ext_trans hB1 hB4
    clear hB4
    go_wp2_with fail
    go_ret
    exact ⟨rfl, hB1⟩

end Go.Proofs.Ytepddehodmljeaa
