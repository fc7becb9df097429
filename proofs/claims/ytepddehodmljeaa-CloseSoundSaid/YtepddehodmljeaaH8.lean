/- Walks: CloseTrue. -/
import Derived.Test.YtepddehodmljeaaH7
import Derived.Test.YtepddehodmljeaaYg
import Derived.Test.YtepddehodmljeaaR7
namespace Go.Proofs.Ytepddehodmljeaa
open Go.RowKit Go.Maps

theorem runV_nilE (fb : Fb) (r : List Int) (f n : Nat) (l : Rus) : runV fb r f n l [] = (l, n, 0) := runV_nil ..
theorem rnL_nil {fb : Fb} {r : List Int} : rnL fb r [] = [] := by
  unfold rnL
  split
  · rw [runV_nilE]
  · rfl
theorem all_zero {l : Rus} : ∀ {ps : List Ru}, (∀ p ∈ ps, mtE l p = 0 → mtB l p = true) → (allR l ps).2 = 0 → (allR l ps).1 = true
  | [], _, _ => rfl
  | p :: ps, h, h2 => by
    unfold allR at h2 ⊢
    by_cases h3 : mtE l p = 0 ∧ mtB l p = true
    · rw [if_pos h3] at h2 ⊢
      exact all_zero (fun q hq => h q (List.mem_cons_of_mem _ hq)) h2
    · rw [if_neg h3] at h2
      exact absurd ⟨h2, h p (List.mem_cons_self ..) h2⟩ h3
/-- What Run tells. -/
theorem close_true {fb : Fb} (hfb : FbOk fb) {r : List Int} {e : List Ru} (h : rnE fb r e = 0) :
    fallsE r (rnL fb r e) = 0 ∧ fallsB r (rnL fb r e) = true ∧ (jaE fb (rnL fb r e) = 0 → jaB fb (rnL fb r e) = true) ∧ (∀ p ∈ e, jpE (rnL fb r e) p = 0 → jpB (rnL fb r e) p = true) := by
  by_cases h0 : caE r e = 0
  · obtain ⟨hr, hl, he⟩ := caE_zero h0
    have hL : rnL fb r e = (runV fb r 30 0 [] e).1 := by rw [rnL, if_pos h0]
    have hE : (runV fb r 30 0 [] e).2.2 = 0 := by rw [rnE, if_pos h0] at h; exact h
    rcases hv : runV fb r 30 0 [] e with ⟨x, m, z⟩
    rw [hv] at hL hE
    have hz : z = 0 := hE
    subst hz
    have hx : rnL fb r e = x := hL
    rw [hx]
    have hI := run_inv hfb 30 0 [] e x m (inv_start hr he) hv
    have hfe : fallsE r x = 0 := by rw [fallsE, if_pos hr]; exact rulesE_zero.2 hI.rul
    refine ⟨hfe, by rw [fallsB, hfe, hI.fl]; rfl, fun hj => ?_, fun p hp hj => ?_⟩
    · have hp0 : pevE fb x = 0 := by
        unfold jaE at hj
        split at hj
        · assumption
        · rename_i hn; exact absurd hj hn
      obtain ⟨g1, g2, g3⟩ := pev_zero hp0
      have hall := run_all hfb hr he hv g2
      rw [← g3] at hall
      rw [jaE, if_pos hp0] at hj
      rw [jaB, hp0, all_zero hall hj]
      rfl
    · obtain ⟨-, -, -, hm⟩ := jpE_zero hj
      rw [jpB, hj, run_pair hfb hr he hv hp hm]
      rfl
  · rw [rnE, if_neg h0] at h
    exact absurd h h0

set_option maxRecDepth 100000 in
set_option maxHeartbeats 4000000 in
theorem CloseTrue_calls (r : List Int) (e : List Ru) (k : Int) (rv ev : Value) (w : World) (hr : IsInts Any w rv r) (he : IsRules Any w ev e) (hk : -9223372036854775808 ≤ k ∧ k ≤ 9223372036854775807) :
    Calls Try.prog 13 #[rv, ev, .int .i64 k] w fun y w' => y = .returned (.bool true) ∧ Below w.heap.size w w' := by
  obtain ⟨fb, hfb⟩ := exists_fb
  have hRun := Lib.hid (Run_calls hfb r e rv ev w hr he)
  obtain ⟨ra, rc, rfl⟩ := hr.isSlice
  obtain ⟨ea, ec, rfl⟩ := he.isSlice
  have HR := Lib.hid hr
  have HE := Lib.hid he
  have hel := Lib.hid he.1
  obtain ⟨hk1, hk2⟩ := hk
  clear hr he
  by_cases h0 : rnE fb r e = 0
  · have H0 := Lib.hid h0
    obtain ⟨g1, g2, g3, g4⟩ := close_true hfb h0
    have G1 := Lib.hid g1
    have G2 := Lib.hid g2
    have hNil : Hid (e = [] → rnL fb r e = []) := fun h => by rw [h]; exact rnL_nil
    have hJa := Lib.hid fun v W hv => JAll_calls hfb (rnL fb r e) v W hv
    generalize rnL fb r e = l at *
    generalize rnN fb r e = nn at *
    clear h0 g1 g2
    -- behind join.All
    by_cases hj : jaE fb l = 0
    · have hjb := Lib.hid (g3 hj)
      have HJ := Lib.hid hj
      clear g3 hj
      by_cases hen : e = []
      · subst hen
        have hl0 := hNil.out rfl
        subst hl0
        clear g4 hel
        go_enter Try.func13, Try.ntmps13
        go_wp2_with fail
        refine hRun.out.mono ?_
        rintro y w1 ⟨z, rfl, hz, hb1⟩
        have HZ := Lib.hid (IsRow.any RuleR.ok hz)
        have HB1 := Lib.hid hb1
        obtain ⟨za, zc, rfl⟩ := hz.isSlice
        have hF := Lib.hid (Falls_calls r [] _ _ w1 (HR.out.below hb1) HZ.out)
        rw [H0.out]
        clear hz hb1
        go_wp2_with fail
        refine hF.out.mono ?_
        rintro y w2 ⟨rfl, hb2⟩
        have HB2 := Lib.hid (ext_trans HB1.out hb2)
        have hJ2 := Lib.hid (hJa.out _ w2 (HZ.out.below RuleR.ok hb2))
        rw [G1.out, G2.out]
        clear hb2
        go_wp2_with fail
        refine hJ2.out.mono ?_
        rintro y w3 ⟨rfl, hb3⟩
        have HB3 := Lib.hid (ext_trans HB2.out hb3)
        rw [HJ.out, hjb.out]
        clear hb3
        go_wp2_with fail
        refine (closeBegun_calls _).mono ?_
        rintro y w4 ⟨rfl, hb4⟩
        have HB4 := Lib.hid (ext_trans HB3.out hb4)
        clear hb4
        go_wp2_with fail
        go_ret
        exact ⟨rfl, HB4.out⟩
      · have hpos : 0 < e.length := List.length_pos_iff.2 hen
        clear hen hNil
        have hle : (e.length : Int) ≤ 9223372036854775807 := by have := hel.out; omega
        have hpi : (0 : Int) < e.length := by omega
        have hei : ((e.length : Int) == 0) = false := by rw [beq_eq_false_iff_ne]; omega
        go_enter Try.func13, Try.ntmps13
        go_wp2_with fail
        refine hRun.out.mono ?_
        rintro y w1 ⟨z, rfl, hz, hb1⟩
        have HZ := Lib.hid (IsRow.any RuleR.ok hz)
        have HB1 := Lib.hid hb1
        obtain ⟨za, zc, rfl⟩ := hz.isSlice
        have hF := Lib.hid (Falls_calls r l _ _ w1 (HR.out.below hb1) HZ.out)
        rw [H0.out]
        clear hz hb1
        go_wp2_with fail
        refine hF.out.mono ?_
        rintro y w2 ⟨rfl, hb2⟩
        have HB2 := Lib.hid (ext_trans HB1.out hb2)
        have HZ2 := Lib.hid (HZ.out.below RuleR.ok hb2)
        have hJ2 := Lib.hid (hJa.out _ w2 HZ2.out)
        rw [G1.out, G2.out]
        clear hb2
        go_wp2_with fail
        refine hJ2.out.mono ?_
        rintro y w3 ⟨rfl, hb3⟩
        have HB3 := Lib.hid (ext_trans HB2.out hb3)
        have HZ3 := Lib.hid (HZ2.out.below RuleR.ok hb3)
        have HE3 := Lib.hid (HE.out.below RuleR.ok HB3.out)
        rw [HJ.out, hjb.out]
        clear hb3
        obtain ⟨hat1, hat2⟩ := chs_lt (c := k) (n := e.length) hpi
        have hCH := Lib.hid (choose_calls k e.length ⟨hpi, hle⟩ hk1 hk2 w3)
        generalize chs k e.length = at0 at *
        obtain ⟨m, rfl⟩ : ∃ m : Nat, at0 = m := ⟨at0.toNat, by omega⟩
        have hm : m < e.length := by omega
        obtain ⟨b, o, c, u, x, e1, hcu, hcx, hiu, hix⟩ := prs_at' HE3.out hm
        cases e1
        have hP := Lib.hid (JPair_calls l (nthR e m) _ _ _ w3 HZ3.out hiu hix)
        have hjp := Lib.hid (g4 _ (nthR_mem hm))
        clear hiu hix g4
        go_wp2_with fail
        refine hCH.out.mono ?_
        rintro y w4 ⟨rfl, rfl⟩
        go_wp2_with fail
        refine hP.out.mono ?_
        rintro y w5 ⟨rfl, hb5⟩
        have HB5 := Lib.hid (ext_trans HB3.out hb5)
        clear hb5
        by_cases hi : jpE l (nthR e m) = 0
        · rw [hi, hjp.out hi]
          clear hi
          go_wp2_with fail
          refine (closeBegun_calls _).mono ?_
          rintro y w6 ⟨rfl, hb6⟩
          have HB6 := Lib.hid (ext_trans HB5.out hb6)
          clear hb6
          go_wp2_with fail
          go_ret
          exact ⟨rfl, HB6.out⟩
        · have h' : (jpE l (nthR e m) != 0) = true := by simpa using hi
          clear hi
          go_wp2_with fail
          refine (closeBegun_calls _).mono ?_
          rintro y w6 ⟨rfl, hb6⟩
          have HB6 := Lib.hid (ext_trans HB5.out hb6)
          clear hb6
          go_wp2_with fail
          go_ret
          exact ⟨rfl, HB6.out⟩
    · have hj0 : (jaE fb l == 0) = false := by rw [beq_eq_false_iff_ne]; exact hj
      clear g3 hj
      by_cases hen : e = []
      · subst hen
        have hl0 := hNil.out rfl
        subst hl0
        clear g4 hel
        go_enter Try.func13, Try.ntmps13
        go_wp2_with fail
        refine hRun.out.mono ?_
        rintro y w1 ⟨z, rfl, hz, hb1⟩
        have HZ := Lib.hid (IsRow.any RuleR.ok hz)
        have HB1 := Lib.hid hb1
        obtain ⟨za, zc, rfl⟩ := hz.isSlice
        have hF := Lib.hid (Falls_calls r [] _ _ w1 (HR.out.below hb1) HZ.out)
        rw [H0.out]
        clear hz hb1
        go_wp2_with fail
        refine hF.out.mono ?_
        rintro y w2 ⟨rfl, hb2⟩
        have HB2 := Lib.hid (ext_trans HB1.out hb2)
        have hJ2 := Lib.hid (hJa.out _ w2 (HZ.out.below RuleR.ok hb2))
        rw [G1.out, G2.out]
        clear hb2
        go_wp2_with fail
        refine hJ2.out.mono ?_
        rintro y w3 ⟨rfl, hb3⟩
        have HB3 := Lib.hid (ext_trans HB2.out hb3)
        clear hb3
        go_wp2_with fail
        refine (closeBegun_calls _).mono ?_
        rintro y w4 ⟨rfl, hb4⟩
        have HB4 := Lib.hid (ext_trans HB3.out hb4)
        clear hb4
        go_wp2_with fail
        go_ret
        exact ⟨rfl, HB4.out⟩
      · have hpos : 0 < e.length := List.length_pos_iff.2 hen
        clear hen hNil
        have hle : (e.length : Int) ≤ 9223372036854775807 := by have := hel.out; omega
        have hpi : (0 : Int) < e.length := by omega
        have hei : ((e.length : Int) == 0) = false := by rw [beq_eq_false_iff_ne]; omega
        go_enter Try.func13, Try.ntmps13
        go_wp2_with fail
        refine hRun.out.mono ?_
        rintro y w1 ⟨z, rfl, hz, hb1⟩
        have HZ := Lib.hid (IsRow.any RuleR.ok hz)
        have HB1 := Lib.hid hb1
        obtain ⟨za, zc, rfl⟩ := hz.isSlice
        have hF := Lib.hid (Falls_calls r l _ _ w1 (HR.out.below hb1) HZ.out)
        rw [H0.out]
        clear hz hb1
        go_wp2_with fail
        refine hF.out.mono ?_
        rintro y w2 ⟨rfl, hb2⟩
        have HB2 := Lib.hid (ext_trans HB1.out hb2)
        have HZ2 := Lib.hid (HZ.out.below RuleR.ok hb2)
        have hJ2 := Lib.hid (hJa.out _ w2 HZ2.out)
        rw [G1.out, G2.out]
        clear hb2
        go_wp2_with fail
        refine hJ2.out.mono ?_
        rintro y w3 ⟨rfl, hb3⟩
        have HB3 := Lib.hid (ext_trans HB2.out hb3)
        have HZ3 := Lib.hid (HZ2.out.below RuleR.ok hb3)
        have HE3 := Lib.hid (HE.out.below RuleR.ok HB3.out)
        clear hb3
        obtain ⟨hat1, hat2⟩ := chs_lt (c := k) (n := e.length) hpi
        have hCH := Lib.hid (choose_calls k e.length ⟨hpi, hle⟩ hk1 hk2 w3)
        generalize chs k e.length = at0 at *
        obtain ⟨m, rfl⟩ : ∃ m : Nat, at0 = m := ⟨at0.toNat, by omega⟩
        have hm : m < e.length := by omega
        obtain ⟨b, o, c, u, x, e1, hcu, hcx, hiu, hix⟩ := prs_at' HE3.out hm
        cases e1
        have hP := Lib.hid (JPair_calls l (nthR e m) _ _ _ w3 HZ3.out hiu hix)
        have hjp := Lib.hid (g4 _ (nthR_mem hm))
        clear hiu hix g4
        go_wp2_with fail
        refine hCH.out.mono ?_
        rintro y w4 ⟨rfl, rfl⟩
        go_wp2_with fail
        refine hP.out.mono ?_
        rintro y w5 ⟨rfl, hb5⟩
        have HB5 := Lib.hid (ext_trans HB3.out hb5)
        clear hb5
        by_cases hi : jpE l (nthR e m) = 0
        · rw [hi, hjp.out hi]
          clear hi
          go_wp2_with fail
          refine (closeBegun_calls _).mono ?_
          rintro y w6 ⟨rfl, hb6⟩
          have HB6 := Lib.hid (ext_trans HB5.out hb6)
          clear hb6
          go_wp2_with fail
          go_ret
          exact ⟨rfl, HB6.out⟩
        · have h' : (jpE l (nthR e m) != 0) = true := by simpa using hi
          clear hi
          go_wp2_with fail
          refine (closeBegun_calls _).mono ?_
          rintro y w6 ⟨rfl, hb6⟩
          have HB6 := Lib.hid (ext_trans HB5.out hb6)
          clear hb6
          go_wp2_with fail
          go_ret
          exact ⟨rfl, HB6.out⟩
  · have h' : (rnE fb r e != 0) = true := by simpa using h0
    clear h0
    go_enter Try.func13, Try.ntmps13
    go_wp2_with fail
    refine hRun.out.mono ?_
    rintro y w1 ⟨z, rfl, hz, hb1⟩
    have HB1 := Lib.hid hb1
    obtain ⟨za, zc, rfl⟩ := hz.isSlice
    clear hz hb1
    go_wp2_with fail
    refine (closeBegun_calls _).mono ?_
    rintro y w6 ⟨rfl, hb6⟩
    have HB6 := Lib.hid (ext_trans HB1.out hb6)
    clear hb6
    go_wp2_with fail
    go_ret
    exact ⟨rfl, HB6.out⟩

end Go.Proofs.Ytepddehodmljeaa
